/- Parts of one proof, joined: math/bits.Div64: it returns quotient and rest of two words by one, wherever the high word is below the divisor; it leaves memory as it is. math/bits.Div64, every high word below the divisor: quotient and rest; memory is left as it is. The program's Share: the shares, or the error; nothing that was there is turned. -/
import Derived.Test.YtkjndkeboeieoaaGreatDoorPkGaugeBack10
import Derived.Test.YtkjndkeboeieoaaGreatDoorShelf2
import Derived.Test.YtkjndkeboeieoaaGreatDoorPkGaugeBack2
import Derived.Test.YtkjndkeboeieoaaGreatDoorShelf
namespace Go.Proofs.YtkjndkeboeieoaaGreatDoor
open Go.RowKit

theorem bitLen_bd : ∀ (k x : Nat), x < 2 ^ k → k ≤ 64 → 0 < x → 1 ≤ Lib.bitLen x ∧ 2 ^ (Lib.bitLen x - 1) ≤ x ∧ x < 2 ^ Lib.bitLen x
  | 0, x, h, _, h0 => by simp at h; omega
  | k + 1, x, h, hk, h0 => by
    have h64 : x < 2 ^ 64 := Nat.lt_of_lt_of_le h (Nat.pow_le_pow_right (by omega) hk)
    rw [Lib.bitLen_half x (by omega) h64]
    rcases Nat.eq_zero_or_pos (x / 2) with h1 | h1
    · have : x = 1 := by omega
      subst this
      decide
    · have hs : x / 2 < 2 ^ k := by rw [Nat.pow_succ] at h; omega
      obtain ⟨i1, i2, i3⟩ := bitLen_bd k (x / 2) hs (by omega) h1
      generalize Lib.bitLen (x / 2) = n at *
      obtain ⟨m, rfl⟩ : ∃ m, n = m + 1 := ⟨n - 1, by omega⟩
      have e1 : 2 ^ (1 + (m + 1) - 1) = 2 ^ m * 2 := by rw [show 1 + (m + 1) - 1 = m + 1 by omega, Nat.pow_succ]
      have e2 : 2 ^ (1 + (m + 1)) = 2 ^ (m + 1) * 2 := by rw [Nat.add_comm, Nat.pow_succ]
      simp only [Nat.add_sub_cancel] at i2
      refine ⟨by omega, ?_, ?_⟩
      · rw [e1]; omega
      · rw [e2]; omega
set_option maxRecDepth 100000 in
set_option maxHeartbeats 16000000 in
theorem div64_core (h l y s s' Y a b H L u V m n q0 p0 r0 k1 k2 k3 v q2 p2 r2 z1 z2 j1 j2 j3 j4 rem Q Q2 : Nat) (g5 : decide (y ≤ h) = false) (g3 : ((y : Int) == 0) = false) (g4 : ((h : Int) == 0) = false) (w : World)
    (LZ : Calls Tryz.prog 91 #[.int .u64 (y : Int)] w fun e w' => e = .returned (.int .i64 (s : Int)) ∧ w' = w)
    (s1 : s < 64) (E1 : IntKind.u64.wrap (s : Int) = (s : Int)) (E2 : min s 64 = s) (E3 : IntKind.u64.wrap ((y : Int) * 2 ^ s) = (Y : Int)) (E4 : (Y : Int) / 4294967296 = (a : Int)) (E5 : bits .and .u64 (Y : Int) 4294967295 = (b : Int))
    (E6 : IntKind.u64.wrap ((h : Int) * 2 ^ s) = (H : Int)) (E7 : IntKind.u64.wrap (64 - (s : Int)) = (s' : Int)) (E8 : min s' 64 = s') (E9 : (l : Int) / 2 ^ s' = (L : Int)) (E10 : bits .or .u64 (H : Int) (L : Int) = (u : Int))
    (E11 : IntKind.u64.wrap ((l : Int) * 2 ^ s) = (V : Int)) (E12 : (V : Int) / 4294967296 = (m : Int)) (E13 : bits .and .u64 (V : Int) 4294967295 = (n : Int))
    (a1 : 2147483648 ≤ a) (a2 : a < 4294967296) (b2 : b < 4294967296) (m2 : m < 4294967296) (n2 : n < 4294967296)
    (E14 : (u : Int) / (a : Int) = (q0 : Int)) (E14' : IntKind.u64.wrap (q0 : Int) = (q0 : Int)) (E15 : IntKind.u64.wrap ((q0 : Int) * (a : Int)) = (p0 : Int)) (E16 : IntKind.u64.wrap ((u : Int) - (p0 : Int)) = (r0 : Int))
    (R1 : D64.Rel u a b m q0 r0) (uY : Hid (u < a * 4294967296 + b)) (HQ : Hid (Q = (u * 4294967296 + m) / (a * 4294967296 + b)))
    (F1 : IntKind.u64.wrap ((u : Int) * 4294967296) = (k1 : Int)) (F2 : IntKind.u64.wrap ((k1 : Int) + (m : Int)) = (k2 : Int)) (F3 : IntKind.u64.wrap ((Q : Int) * (Y : Int)) = (k3 : Int)) (F4 : IntKind.u64.wrap ((k2 : Int) - (k3 : Int)) = (v : Int))
    (F5 : (v : Int) / (a : Int) = (q2 : Int)) (F5' : IntKind.u64.wrap (q2 : Int) = (q2 : Int)) (F6 : IntKind.u64.wrap ((q2 : Int) * (a : Int)) = (p2 : Int)) (F7 : IntKind.u64.wrap ((v : Int) - (p2 : Int)) = (r2 : Int))
    (R2 : D64.Rel v a b n q2 r2) (vY : Hid (v < a * 4294967296 + b)) (HQ2 : Hid (Q2 = (v * 4294967296 + n) / (a * 4294967296 + b)))
    (G1 : IntKind.u64.wrap ((Q : Int) * 4294967296) = (z1 : Int)) (G2 : IntKind.u64.wrap ((z1 : Int) + (Q2 : Int)) = (z2 : Int))
    (G3 : IntKind.u64.wrap ((v : Int) * 4294967296) = (j1 : Int)) (G4 : IntKind.u64.wrap ((j1 : Int) + (n : Int)) = (j2 : Int)) (G5 : IntKind.u64.wrap ((Q2 : Int) * (Y : Int)) = (j3 : Int)) (G6 : IntKind.u64.wrap ((j2 : Int) - (j3 : Int)) = (j4 : Int)) (G7 : (j4 : Int) / 2 ^ s = (rem : Int)) :
    Calls Tryz.prog 71 #[.int .u64 h, .int .u64 l, .int .u64 y] w fun e w' => e = .returned (.tuple #[.int .u64 (z2 : Int), .int .u64 (rem : Int)]) ∧ w = w' := by
  have a0 : a ≠ 0 := by omega
  have a3 : ((a : Int) == 0) = false := by simp; omega
  have a4 : (0 : Int) < (a : Int) := by omega
  have HR1 := hide R1
  have HR2 := hide R2
  clear R1 R2
  go_enter Tryz.func71, Tryz.ntmps71
  go_wp2_with fail
  refine LZ.mono ?_
  rintro e w' ⟨rfl, rfl⟩
  go_wp2
  go_loop [15, 16] (fun vq v16 => ∃ q r : Nat, vq = .int .u64 q ∧ v16 = .int .u64 r ∧ Hid (D64.Rel u a b m q r)) (fun vq _ => (intOf vq).toNat)
  case atStart => exact ⟨_, _, rfl, rfl, HR1.out⟩
  case round =>
    obtain ⟨q, r, rfl, rfl, hrel⟩ := hrel
    have bd := hrel.out.bounds b2 m2
    have q4 := hrel.out.2.2.1
    have r4 := hrel.out.2.2.2
    obtain ⟨x, hx⟩ : ∃ x : Nat, x = q * b := ⟨_, rfl⟩
    have W1 : IntKind.u64.wrap ((q : Int) * (b : Int)) = (x : Int) := by rw [IntKind.wrap_u64, hx, ← Int.natCast_mul]; rw [← hx] at bd ⊢; omega
    have W2 : IntKind.u64.wrap (4294967296 * (r : Int)) = ((4294967296 * r : Nat) : Int) := by rw [IntKind.wrap_u64]; omega
    obtain ⟨r', hr'⟩ : ∃ r' : Nat, r' = 4294967296 * r := ⟨_, rfl⟩
    rw [← hr'] at W2
    obtain ⟨tt, htt⟩ : ∃ tt : Nat, tt = r' + m := ⟨_, rfl⟩
    have W3 : IntKind.u64.wrap ((r' : Int) + (m : Int)) = (tt : Int) := by rw [IntKind.wrap_u64]; omega
    have W5 : IntKind.u64.wrap ((r : Int) + (a : Int)) = ((r + a : Nat) : Int) := by rw [IntKind.wrap_u64]; omega
    obtain ⟨ra, hra⟩ : ∃ ra : Nat, ra = r + a := ⟨_, rfl⟩
    rw [← hra] at W5
    have hc : (4294967296 ≤ q) ∨ (q < 4294967296 ∧ tt < x) ∨ (q < 4294967296 ∧ x ≤ tt) := by omega
    have HX := hide hx
    have HT := hide htt
    have HR' := hide hr'
    have HRA := hide hra
    have QI := q4
    clear bd hx htt hr' hra
    rcases hc with hc | ⟨hc, hc'⟩ | ⟨hc, hc'⟩
    · have dn := hrel.out.down (by omega) uY.out m2 a2 b2 (.inl hc)
      rw [← HRA.out] at dn
      obtain ⟨d1, d2, d3, d4⟩ := dn
      have W4 : IntKind.u64.wrap ((q : Int) - 1) = ((q - 1 : Nat) : Int) := by rw [IntKind.wrap_u64]; omega
      obtain ⟨qm, hqm⟩ : ∃ qm : Nat, qm = q - 1 := ⟨_, rfl⟩
      rw [← hqm] at W4 d3 d4
      have HQM := hide hqm
      have D3 := hide d3
      have D4 := hide d4
      have t1 : decide (4294967296 ≤ q) = true := by simp; omega
      have t1' : decide ((4294967296 : Int) ≤ (q : Int)) = true := by simp; omega
      have md : Hid (qm < q) := hide (by omega)
      clear hqm d3 d4 d1 d2 q4 r4
      rcases Nat.lt_or_ge ra 4294967296 with hb4 | hb4
      · have t3 : decide (4294967296 ≤ ra) = false := by simp; omega
        have t3' : decide ((4294967296 : Int) ≤ (ra : Int)) = false := by simp; omega
        go_wp2
        go_round
        case rel => exact ⟨qm, ra, rfl, rfl, D3.out hb4⟩
        case measure => have := md.out; simp [intOf]; omega
      · have t3 : decide (4294967296 ≤ ra) = true := by simp; omega
        have t3' : decide ((4294967296 : Int) ≤ (ra : Int)) = true := by simp; omega
        obtain rfl : qm = Q := (D4.out hb4).trans HQ.out.symm
        clear D3 D4
        go_wp2
        go_loop [18, 16] (fun vq v16 => ∃ q r : Nat, vq = .int .u64 q ∧ v16 = .int .u64 r ∧ Hid (D64.Rel v a b n q r)) (fun vq _ => (intOf vq).toNat)
        case atStart => exact ⟨_, _, rfl, rfl, HR2.out⟩
        case round =>
          obtain ⟨q, r, rfl, rfl, hrel⟩ := hrel
          have bd := hrel.out.bounds b2 n2
          have q4 := hrel.out.2.2.1
          have r4 := hrel.out.2.2.2
          obtain ⟨x, hx⟩ : ∃ x : Nat, x = q * b := ⟨_, rfl⟩
          have W1 : IntKind.u64.wrap ((q : Int) * (b : Int)) = (x : Int) := by rw [IntKind.wrap_u64, hx, ← Int.natCast_mul]; rw [← hx] at bd ⊢; omega
          have W2 : IntKind.u64.wrap (4294967296 * (r : Int)) = ((4294967296 * r : Nat) : Int) := by rw [IntKind.wrap_u64]; omega
          obtain ⟨r', hr'⟩ : ∃ r' : Nat, r' = 4294967296 * r := ⟨_, rfl⟩
          rw [← hr'] at W2
          obtain ⟨tt, htt⟩ : ∃ tt : Nat, tt = r' + n := ⟨_, rfl⟩
          have W3 : IntKind.u64.wrap ((r' : Int) + (n : Int)) = (tt : Int) := by rw [IntKind.wrap_u64]; omega
          have W5 : IntKind.u64.wrap ((r : Int) + (a : Int)) = ((r + a : Nat) : Int) := by rw [IntKind.wrap_u64]; omega
          obtain ⟨ra, hra⟩ : ∃ ra : Nat, ra = r + a := ⟨_, rfl⟩
          rw [← hra] at W5
          have hc : (4294967296 ≤ q) ∨ (q < 4294967296 ∧ tt < x) ∨ (q < 4294967296 ∧ x ≤ tt) := by omega
          have HX := hide hx
          have HT := hide htt
          have HR' := hide hr'
          have HRA := hide hra
          have QI := q4
          clear bd hx htt hr' hra
          rcases hc with hc | ⟨hc, hc'⟩ | ⟨hc, hc'⟩
          · have dn := hrel.out.down (by omega) vY.out n2 a2 b2 (.inl hc)
            rw [← HRA.out] at dn
            obtain ⟨d1, d2, d3, d4⟩ := dn
            have W4 : IntKind.u64.wrap ((q : Int) - 1) = ((q - 1 : Nat) : Int) := by rw [IntKind.wrap_u64]; omega
            obtain ⟨qm, hqm⟩ : ∃ qm : Nat, qm = q - 1 := ⟨_, rfl⟩
            rw [← hqm] at W4 d3 d4
            have HQM := hide hqm
            have D3 := hide d3
            have D4 := hide d4
            have t1 : decide (4294967296 ≤ q) = true := by simp; omega
            have t1' : decide ((4294967296 : Int) ≤ (q : Int)) = true := by simp; omega
            have md : Hid (qm < q) := hide (by omega)
            clear hqm d3 d4 d1 d2 q4 r4
            rcases Nat.lt_or_ge ra 4294967296 with hb4 | hb4
            · have t3 : decide (4294967296 ≤ ra) = false := by simp; omega
              have t3' : decide ((4294967296 : Int) ≤ (ra : Int)) = false := by simp; omega
              go_wp2
              go_round
              case rel => exact ⟨qm, ra, rfl, rfl, D3.out hb4⟩
              case measure => have := md.out; simp [intOf]; omega
            · have t3 : decide (4294967296 ≤ ra) = true := by simp; omega
              have t3' : decide ((4294967296 : Int) ≤ (ra : Int)) = true := by simp; omega
              obtain rfl : qm = Q2 := (D4.out hb4).trans HQ2.out.symm
              clear D3 D4
              go_wp2
              go_ret2
              exact ⟨rfl, rfl⟩
          · have dn := hrel.out.down (by omega) vY.out n2 a2 b2 (.inr (by rw [← HX.out, ← HR'.out, ← HT.out]; exact hc'))
            rw [← HRA.out] at dn
            obtain ⟨d1, d2, d3, d4⟩ := dn
            have W4 : IntKind.u64.wrap ((q : Int) - 1) = ((q - 1 : Nat) : Int) := by rw [IntKind.wrap_u64]; omega
            obtain ⟨qm, hqm⟩ : ∃ qm : Nat, qm = q - 1 := ⟨_, rfl⟩
            rw [← hqm] at W4 d3 d4
            have HQM := hide hqm
            have D3 := hide d3
            have D4 := hide d4
            have t1 : decide (4294967296 ≤ q) = false := by simp; omega
            have t1' : decide ((4294967296 : Int) ≤ (q : Int)) = false := by simp; omega
            have t2 : decide (tt < x) = true := by simp; omega
            have md : Hid (qm < q) := hide (by omega)
            clear hqm d3 d4 d1 d2 q4 r4
            rcases Nat.lt_or_ge ra 4294967296 with hb4 | hb4
            · have t3 : decide (4294967296 ≤ ra) = false := by simp; omega
              have t3' : decide ((4294967296 : Int) ≤ (ra : Int)) = false := by simp; omega
              go_wp2
              go_round
              case rel => exact ⟨qm, ra, rfl, rfl, D3.out hb4⟩
              case measure => have := md.out; simp [intOf]; omega
            · have t3 : decide (4294967296 ≤ ra) = true := by simp; omega
              have t3' : decide ((4294967296 : Int) ≤ (ra : Int)) = true := by simp; omega
              obtain rfl : qm = Q2 := (D4.out hb4).trans HQ2.out.symm
              clear D3 D4
              go_wp2
              go_ret2
              exact ⟨rfl, rfl⟩
          · have dn := hide (hrel.out.done (by omega) (by rw [← HX.out, ← HR'.out, ← HT.out]; omega))
            have t1 : decide (4294967296 ≤ q) = false := by simp; omega
            have t1' : decide ((4294967296 : Int) ≤ (q : Int)) = false := by simp; omega
            have t2 : decide (tt < x) = false := by simp; omega
            obtain rfl : q = Q2 := dn.out.trans HQ2.out.symm
            clear q4 r4
            go_wp2
            go_ret2
            exact ⟨rfl, rfl⟩
    · have dn := hrel.out.down (by omega) uY.out m2 a2 b2 (.inr (by rw [← HX.out, ← HR'.out, ← HT.out]; exact hc'))
      rw [← HRA.out] at dn
      obtain ⟨d1, d2, d3, d4⟩ := dn
      have W4 : IntKind.u64.wrap ((q : Int) - 1) = ((q - 1 : Nat) : Int) := by rw [IntKind.wrap_u64]; omega
      obtain ⟨qm, hqm⟩ : ∃ qm : Nat, qm = q - 1 := ⟨_, rfl⟩
      rw [← hqm] at W4 d3 d4
      have HQM := hide hqm
      have D3 := hide d3
      have D4 := hide d4
      have t1 : decide (4294967296 ≤ q) = false := by simp; omega
      have t1' : decide ((4294967296 : Int) ≤ (q : Int)) = false := by simp; omega
      have t2 : decide (tt < x) = true := by simp; omega
      have md : Hid (qm < q) := hide (by omega)
      clear hqm d3 d4 d1 d2 q4 r4
      rcases Nat.lt_or_ge ra 4294967296 with hb4 | hb4
      · have t3 : decide (4294967296 ≤ ra) = false := by simp; omega
        have t3' : decide ((4294967296 : Int) ≤ (ra : Int)) = false := by simp; omega
        go_wp2
        go_round
        case rel => exact ⟨qm, ra, rfl, rfl, D3.out hb4⟩
        case measure => have := md.out; simp [intOf]; omega
      · have t3 : decide (4294967296 ≤ ra) = true := by simp; omega
        have t3' : decide ((4294967296 : Int) ≤ (ra : Int)) = true := by simp; omega
        obtain rfl : qm = Q := (D4.out hb4).trans HQ.out.symm
        clear D3 D4
        go_wp2
        go_loop [18, 16] (fun vq v16 => ∃ q r : Nat, vq = .int .u64 q ∧ v16 = .int .u64 r ∧ Hid (D64.Rel v a b n q r)) (fun vq _ => (intOf vq).toNat)
        case atStart => exact ⟨_, _, rfl, rfl, HR2.out⟩
        case round =>
          obtain ⟨q, r, rfl, rfl, hrel⟩ := hrel
          have bd := hrel.out.bounds b2 n2
          have q4 := hrel.out.2.2.1
          have r4 := hrel.out.2.2.2
          obtain ⟨x, hx⟩ : ∃ x : Nat, x = q * b := ⟨_, rfl⟩
          have W1 : IntKind.u64.wrap ((q : Int) * (b : Int)) = (x : Int) := by rw [IntKind.wrap_u64, hx, ← Int.natCast_mul]; rw [← hx] at bd ⊢; omega
          have W2 : IntKind.u64.wrap (4294967296 * (r : Int)) = ((4294967296 * r : Nat) : Int) := by rw [IntKind.wrap_u64]; omega
          obtain ⟨r', hr'⟩ : ∃ r' : Nat, r' = 4294967296 * r := ⟨_, rfl⟩
          rw [← hr'] at W2
          obtain ⟨tt, htt⟩ : ∃ tt : Nat, tt = r' + n := ⟨_, rfl⟩
          have W3 : IntKind.u64.wrap ((r' : Int) + (n : Int)) = (tt : Int) := by rw [IntKind.wrap_u64]; omega
          have W5 : IntKind.u64.wrap ((r : Int) + (a : Int)) = ((r + a : Nat) : Int) := by rw [IntKind.wrap_u64]; omega
          obtain ⟨ra, hra⟩ : ∃ ra : Nat, ra = r + a := ⟨_, rfl⟩
          rw [← hra] at W5
          have hc : (4294967296 ≤ q) ∨ (q < 4294967296 ∧ tt < x) ∨ (q < 4294967296 ∧ x ≤ tt) := by omega
          have HX := hide hx
          have HT := hide htt
          have HR' := hide hr'
          have HRA := hide hra
          have QI := q4
          clear bd hx htt hr' hra
          rcases hc with hc | ⟨hc, hc'⟩ | ⟨hc, hc'⟩
          · have dn := hrel.out.down (by omega) vY.out n2 a2 b2 (.inl hc)
            rw [← HRA.out] at dn
            obtain ⟨d1, d2, d3, d4⟩ := dn
            have W4 : IntKind.u64.wrap ((q : Int) - 1) = ((q - 1 : Nat) : Int) := by rw [IntKind.wrap_u64]; omega
            obtain ⟨qm, hqm⟩ : ∃ qm : Nat, qm = q - 1 := ⟨_, rfl⟩
            rw [← hqm] at W4 d3 d4
            have HQM := hide hqm
            have D3 := hide d3
            have D4 := hide d4
            have t1 : decide (4294967296 ≤ q) = true := by simp; omega
            have t1' : decide ((4294967296 : Int) ≤ (q : Int)) = true := by simp; omega
            have md : Hid (qm < q) := hide (by omega)
            clear hqm d3 d4 d1 d2 q4 r4
            rcases Nat.lt_or_ge ra 4294967296 with hb4 | hb4
            · have t3 : decide (4294967296 ≤ ra) = false := by simp; omega
              have t3' : decide ((4294967296 : Int) ≤ (ra : Int)) = false := by simp; omega
              go_wp2
              go_round
              case rel => exact ⟨qm, ra, rfl, rfl, D3.out hb4⟩
              case measure => have := md.out; simp [intOf]; omega
            · have t3 : decide (4294967296 ≤ ra) = true := by simp; omega
              have t3' : decide ((4294967296 : Int) ≤ (ra : Int)) = true := by simp; omega
              obtain rfl : qm = Q2 := (D4.out hb4).trans HQ2.out.symm
              clear D3 D4
              go_wp2
              go_ret2
              exact ⟨rfl, rfl⟩
          · have dn := hrel.out.down (by omega) vY.out n2 a2 b2 (.inr (by rw [← HX.out, ← HR'.out, ← HT.out]; exact hc'))
            rw [← HRA.out] at dn
            obtain ⟨d1, d2, d3, d4⟩ := dn
            have W4 : IntKind.u64.wrap ((q : Int) - 1) = ((q - 1 : Nat) : Int) := by rw [IntKind.wrap_u64]; omega
            obtain ⟨qm, hqm⟩ : ∃ qm : Nat, qm = q - 1 := ⟨_, rfl⟩
            rw [← hqm] at W4 d3 d4
            have HQM := hide hqm
            have D3 := hide d3
            have D4 := hide d4
            have t1 : decide (4294967296 ≤ q) = false := by simp; omega
            have t1' : decide ((4294967296 : Int) ≤ (q : Int)) = false := by simp; omega
            have t2 : decide (tt < x) = true := by simp; omega
            have md : Hid (qm < q) := hide (by omega)
            clear hqm d3 d4 d1 d2 q4 r4
            rcases Nat.lt_or_ge ra 4294967296 with hb4 | hb4
            · have t3 : decide (4294967296 ≤ ra) = false := by simp; omega
              have t3' : decide ((4294967296 : Int) ≤ (ra : Int)) = false := by simp; omega
              go_wp2
              go_round
              case rel => exact ⟨qm, ra, rfl, rfl, D3.out hb4⟩
              case measure => have := md.out; simp [intOf]; omega
            · have t3 : decide (4294967296 ≤ ra) = true := by simp; omega
              have t3' : decide ((4294967296 : Int) ≤ (ra : Int)) = true := by simp; omega
              obtain rfl : qm = Q2 := (D4.out hb4).trans HQ2.out.symm
              clear D3 D4
              go_wp2
              go_ret2
              exact ⟨rfl, rfl⟩
          · have dn := hide (hrel.out.done (by omega) (by rw [← HX.out, ← HR'.out, ← HT.out]; omega))
            have t1 : decide (4294967296 ≤ q) = false := by simp; omega
            have t1' : decide ((4294967296 : Int) ≤ (q : Int)) = false := by simp; omega
            have t2 : decide (tt < x) = false := by simp; omega
            obtain rfl : q = Q2 := dn.out.trans HQ2.out.symm
            clear q4 r4
            go_wp2
            go_ret2
            exact ⟨rfl, rfl⟩
    · have dn := hide (hrel.out.done (by omega) (by rw [← HX.out, ← HR'.out, ← HT.out]; omega))
      have t1 : decide (4294967296 ≤ q) = false := by simp; omega
      have t1' : decide ((4294967296 : Int) ≤ (q : Int)) = false := by simp; omega
      have t2 : decide (tt < x) = false := by simp; omega
      obtain rfl : q = Q := dn.out.trans HQ.out.symm
      clear q4 r4
      go_wp2
      go_loop [18, 16] (fun vq v16 => ∃ q r : Nat, vq = .int .u64 q ∧ v16 = .int .u64 r ∧ Hid (D64.Rel v a b n q r)) (fun vq _ => (intOf vq).toNat)
      case atStart => exact ⟨_, _, rfl, rfl, HR2.out⟩
      case round =>
        obtain ⟨q, r, rfl, rfl, hrel⟩ := hrel
        have bd := hrel.out.bounds b2 n2
        have q4 := hrel.out.2.2.1
        have r4 := hrel.out.2.2.2
        obtain ⟨x, hx⟩ : ∃ x : Nat, x = q * b := ⟨_, rfl⟩
        have W1 : IntKind.u64.wrap ((q : Int) * (b : Int)) = (x : Int) := by rw [IntKind.wrap_u64, hx, ← Int.natCast_mul]; rw [← hx] at bd ⊢; omega
        have W2 : IntKind.u64.wrap (4294967296 * (r : Int)) = ((4294967296 * r : Nat) : Int) := by rw [IntKind.wrap_u64]; omega
        obtain ⟨r', hr'⟩ : ∃ r' : Nat, r' = 4294967296 * r := ⟨_, rfl⟩
        rw [← hr'] at W2
        obtain ⟨tt, htt⟩ : ∃ tt : Nat, tt = r' + n := ⟨_, rfl⟩
        have W3 : IntKind.u64.wrap ((r' : Int) + (n : Int)) = (tt : Int) := by rw [IntKind.wrap_u64]; omega
        have W5 : IntKind.u64.wrap ((r : Int) + (a : Int)) = ((r + a : Nat) : Int) := by rw [IntKind.wrap_u64]; omega
        obtain ⟨ra, hra⟩ : ∃ ra : Nat, ra = r + a := ⟨_, rfl⟩
        rw [← hra] at W5
        have hc : (4294967296 ≤ q) ∨ (q < 4294967296 ∧ tt < x) ∨ (q < 4294967296 ∧ x ≤ tt) := by omega
        have HX := hide hx
        have HT := hide htt
        have HR' := hide hr'
        have HRA := hide hra
        have QI := q4
        clear bd hx htt hr' hra
        rcases hc with hc | ⟨hc, hc'⟩ | ⟨hc, hc'⟩
        · have dn := hrel.out.down (by omega) vY.out n2 a2 b2 (.inl hc)
          rw [← HRA.out] at dn
          obtain ⟨d1, d2, d3, d4⟩ := dn
          have W4 : IntKind.u64.wrap ((q : Int) - 1) = ((q - 1 : Nat) : Int) := by rw [IntKind.wrap_u64]; omega
          obtain ⟨qm, hqm⟩ : ∃ qm : Nat, qm = q - 1 := ⟨_, rfl⟩
          rw [← hqm] at W4 d3 d4
          have HQM := hide hqm
          have D3 := hide d3
          have D4 := hide d4
          have t1 : decide (4294967296 ≤ q) = true := by simp; omega
          have t1' : decide ((4294967296 : Int) ≤ (q : Int)) = true := by simp; omega
          have md : Hid (qm < q) := hide (by omega)
          clear hqm d3 d4 d1 d2 q4 r4
          rcases Nat.lt_or_ge ra 4294967296 with hb4 | hb4
          · have t3 : decide (4294967296 ≤ ra) = false := by simp; omega
            have t3' : decide ((4294967296 : Int) ≤ (ra : Int)) = false := by simp; omega
            go_wp2
            go_round
            case rel => exact ⟨qm, ra, rfl, rfl, D3.out hb4⟩
            case measure => have := md.out; simp [intOf]; omega
          · have t3 : decide (4294967296 ≤ ra) = true := by simp; omega
            have t3' : decide ((4294967296 : Int) ≤ (ra : Int)) = true := by simp; omega
            obtain rfl : qm = Q2 := (D4.out hb4).trans HQ2.out.symm
            clear D3 D4
            go_wp2
            go_ret2
            exact ⟨rfl, rfl⟩
        · have dn := hrel.out.down (by omega) vY.out n2 a2 b2 (.inr (by rw [← HX.out, ← HR'.out, ← HT.out]; exact hc'))
          rw [← HRA.out] at dn
          obtain ⟨d1, d2, d3, d4⟩ := dn
          have W4 : IntKind.u64.wrap ((q : Int) - 1) = ((q - 1 : Nat) : Int) := by rw [IntKind.wrap_u64]; omega
          obtain ⟨qm, hqm⟩ : ∃ qm : Nat, qm = q - 1 := ⟨_, rfl⟩
          rw [← hqm] at W4 d3 d4
          have HQM := hide hqm
          have D3 := hide d3
          have D4 := hide d4
          have t1 : decide (4294967296 ≤ q) = false := by simp; omega
          have t1' : decide ((4294967296 : Int) ≤ (q : Int)) = false := by simp; omega
          have t2 : decide (tt < x) = true := by simp; omega
          have md : Hid (qm < q) := hide (by omega)
          clear hqm d3 d4 d1 d2 q4 r4
          rcases Nat.lt_or_ge ra 4294967296 with hb4 | hb4
          · have t3 : decide (4294967296 ≤ ra) = false := by simp; omega
            have t3' : decide ((4294967296 : Int) ≤ (ra : Int)) = false := by simp; omega
            go_wp2
            go_round
            case rel => exact ⟨qm, ra, rfl, rfl, D3.out hb4⟩
            case measure => have := md.out; simp [intOf]; omega
          · have t3 : decide (4294967296 ≤ ra) = true := by simp; omega
            have t3' : decide ((4294967296 : Int) ≤ (ra : Int)) = true := by simp; omega
            obtain rfl : qm = Q2 := (D4.out hb4).trans HQ2.out.symm
            clear D3 D4
            go_wp2
            go_ret2
            exact ⟨rfl, rfl⟩
        · have dn := hide (hrel.out.done (by omega) (by rw [← HX.out, ← HR'.out, ← HT.out]; omega))
          have t1 : decide (4294967296 ≤ q) = false := by simp; omega
          have t1' : decide ((4294967296 : Int) ≤ (q : Int)) = false := by simp; omega
          have t2 : decide (tt < x) = false := by simp; omega
          obtain rfl : q = Q2 := dn.out.trans HQ2.out.symm
          clear q4 r4
          go_wp2
          go_ret2
          exact ⟨rfl, rfl⟩
end Go.Proofs.YtkjndkeboeieoaaGreatDoor

namespace Go.Proofs.YtkjndkeboeieoaaGreatDoor
open Go.RowKit

theorem u64_nat {x : Nat} (h : x < 18446744073709551616) : IntKind.u64.wrap (x : Int) = (x : Int) := by rw [IntKind.wrap_u64]; omega
theorem u64_mod (x : Nat) : IntKind.u64.wrap (x : Int) = ((x % 18446744073709551616 : Nat) : Int) := by rw [IntKind.wrap_u64]; omega
theorem u64_and32 {x : Nat} (h : x < 18446744073709551616) : bits .and .u64 (x : Int) 4294967295 = ((x % 4294967296 : Nat) : Int) := by
  have e : x &&& 4294967295 = x % 4294967296 := Nat.and_two_pow_sub_one_eq_mod x 32
  have := bits_and_u64_nat x 4294967295 h (by omega)
  rw [e] at this
  exact this
theorem u64_or_nat {x y z : Nat} (h : x ||| y = z) (hx : x < 18446744073709551616) (hy : y < 18446744073709551616) : bits .or .u64 (x : Int) (y : Int) = (z : Int) := by
  have hz : x ||| y < 2 ^ 64 := Nat.or_lt_two_pow (by omega) (by omega)
  rw [← h]
  show IntKind.u64.wrap ((BitVec.ofInt 64 (x : Int) ||| BitVec.ofInt 64 (y : Int)).toNat : Int) = _
  rw [BitVec.toNat_or, BitVec.ofInt_natCast, BitVec.ofInt_natCast, BitVec.toNat_ofNat, BitVec.toNat_ofNat, Nat.mod_eq_of_lt (by omega), Nat.mod_eq_of_lt (by omega)]
  exact u64_nat (by omega)
theorem cast_pow (x p : Nat) : (x : Int) * 2 ^ p = ((x * 2 ^ p : Nat) : Int) := by rw [Int.natCast_mul, Int.natCast_pow]; rfl
theorem cast_div_pow (x p : Nat) : (x : Int) / 2 ^ p = ((x / 2 ^ p : Nat) : Int) := by rw [Int.natCast_ediv, Int.natCast_pow]; rfl
theorem u64_sub {x y z : Nat} (h : ((x : Int) - (y : Int)) % 18446744073709551616 = (z : Int)) (x' y' : Nat) (hx : x' = x % 18446744073709551616) (hy : y' = y % 18446744073709551616) : IntKind.u64.wrap ((x' : Int) - (y' : Int)) = (z : Int) := by
  rw [IntKind.wrap_u64, hx, hy]; omega
theorem e_div {x a q : Nat} (h : q = x / a) : (x : Int) / (a : Int) = (q : Int) := by rw [h, Int.natCast_ediv]
theorem e_mul {x y z : Nat} (h : z = x * y % 18446744073709551616) : IntKind.u64.wrap ((x : Int) * (y : Int)) = (z : Int) := by rw [← Int.natCast_mul, u64_mod, h]
theorem e_mul32 {x z : Nat} (h : z = x * 4294967296 % 18446744073709551616) : IntKind.u64.wrap ((x : Int) * 4294967296) = (z : Int) := by
  rw [h]; exact e_mul (y := 4294967296) rfl
theorem e_add {x y z : Nat} (h : z = (x + y) % 18446744073709551616) : IntKind.u64.wrap ((x : Int) + (y : Int)) = (z : Int) := by rw [← Int.natCast_add, u64_mod, h]
theorem e_sub {x y z : Nat} (hy : y ≤ x) (h : z = x - y) (hz : x < 18446744073709551616) : IntKind.u64.wrap ((x : Int) - (y : Int)) = (z : Int) := by
  rw [IntKind.wrap_u64, h]; omega
theorem e_join (u V : Nat) : (u * 4294967296 + V / 4294967296) * 4294967296 + V % 4294967296 = u * 18446744073709551616 + V := by omega
theorem e_rest {x y z k k3 : Nat} (h : ((x : Int) - (y : Int)) % 18446744073709551616 = (z : Int)) (h1 : k = x % 18446744073709551616) (h2 : k3 = y % 18446744073709551616) : IntKind.u64.wrap ((k : Int) - (k3 : Int)) = (z : Int) := u64_sub h k k3 h1 h2
theorem e_two {x n k k2 : Nat} (h1 : k = x * 4294967296 % 18446744073709551616) (h2 : k2 = (x * 4294967296 + n) % 18446744073709551616) : k2 = (k + n) % 18446744073709551616 := by rw [h1, h2]; omega
theorem lt64 {q : Nat} (h : q ≤ 4294967297) : q < 18446744073709551616 := by omega
theorem q_lt {Q Q2 : Nat} (h : Q < 4294967296) (h' : Q2 < 4294967296) : Q * 4294967296 + Q2 < 18446744073709551616 ∧ Q * 4294967296 < 18446744073709551616 := by omega
theorem mod_self' {x : Nat} (h : x < 18446744073709551616) : x = x % 18446744073709551616 := (Nat.mod_eq_of_lt h).symm
theorem mul_le_of {q a u r : Nat} (h : q * a + r = u) (hu : u < 18446744073709551616) : q * a < 18446744073709551616 ∧ q * a ≤ u ∧ r = u - q * a := by omega
theorem half_bd {Y : Nat} (h1 : 9223372036854775808 ≤ Y) (h2 : Y < 18446744073709551616) : 2147483648 ≤ Y / 4294967296 ∧ Y / 4294967296 < 4294967296 ∧ Y / 4294967296 * 4294967296 + Y % 4294967296 = Y := by omega
theorem half_lt {V : Nat} (h : V < 18446744073709551616) : V / 4294967296 < 4294967296 := by omega
theorem div64_inst (h l y s s' Y H L u V a b m n v Q Q2 w4 : Nat) (g5 : decide (y ≤ h) = false) (g3 : ((y : Int) == 0) = false) (g4 : ((h : Int) == 0) = false) (w : World)
    (LZ : Calls Tryz.prog 91 #[.int .u64 (y : Int)] w fun e w' => e = .returned (.int .i64 (s : Int)) ∧ w' = w)
    (s1 : s < 64) (E1 : IntKind.u64.wrap (s : Int) = (s : Int)) (E2 : min s 64 = s) (E3 : IntKind.u64.wrap ((y : Int) * 2 ^ s) = (Y : Int)) (ha : a = Y / 4294967296) (hb : b = Y % 4294967296)
    (E6 : IntKind.u64.wrap ((h : Int) * 2 ^ s) = (H : Int)) (E7 : IntKind.u64.wrap (64 - (s : Int)) = (s' : Int)) (E8 : min s' 64 = s') (E9 : (l : Int) / 2 ^ s' = (L : Int)) (E10 : bits .or .u64 (H : Int) (L : Int) = (u : Int))
    (E11 : IntKind.u64.wrap ((l : Int) * 2 ^ s) = (V : Int)) (hm : m = V / 4294967296) (hn : n = V % 4294967296)
    (a1 : 2147483648 ≤ a) (a2 : a < 4294967296) (b2 : b < 4294967296) (m2 : m < 4294967296) (n2 : n < 4294967296) (eY : a * 4294967296 + b = Y) (Y2 : Y < 18446744073709551616) (V2 : V < 18446744073709551616)
    (uY : u < Y) (hQ : Q = (u * 4294967296 + m) / Y) (hv : v = (u * 4294967296 + m) % Y) (hQ2 : Q2 = (v * 4294967296 + n) / Y) (hw : w4 = (v * 4294967296 + n) % Y) :
    Calls Tryz.prog 71 #[.int .u64 h, .int .u64 l, .int .u64 y] w fun e w' => e = .returned (.tuple #[.int .u64 ((Q * 4294967296 + Q2 : Nat) : Int), .int .u64 ((w4 / 2 ^ s : Nat) : Int)]) ∧ w = w' := by
  have Y0 : 0 < Y := by omega
  have vY : v < Y := by rw [hv]; exact Nat.mod_lt _ Y0
  have S1 := D64.start a1 b2 (by rw [eY]; exact uY)
  have S2 := D64.start (u := v) a1 b2 (by rw [eY]; exact vY)
  have T1 := D64.start_ge (u := u) (a := a) (b := b) (n := m) (by omega) m2
  have T2 := D64.start_ge (u := v) (a := a) (b := b) (n := n) (by omega) n2
  have Q1 : Q < 4294967296 := by rw [hQ]; exact D64.quo_small uY m2
  have Q22 : Q2 < 4294967296 := by rw [hQ2]; exact D64.quo_small vY n2
  have RW1 := D64.rest_word Y0 Y2 hQ
  have RW2 := D64.rest_word Y0 Y2 hQ2
  rw [← hv] at RW1
  rw [← hw] at RW2
  have u2 : u < 18446744073709551616 := by omega
  have v3 : v < 18446744073709551616 := by omega
  have M1 := mul_le_of S1.1 u2
  have M2 := mul_le_of S2.1 v3
  have QL := q_lt Q1 Q22
  obtain ⟨q0, hq0⟩ : ∃ q0, q0 = u / a := ⟨_, rfl⟩
  obtain ⟨r0, hr0⟩ : ∃ r0, r0 = u % a := ⟨_, rfl⟩
  obtain ⟨q2, hq2⟩ : ∃ q2, q2 = v / a := ⟨_, rfl⟩
  obtain ⟨r2, hr2⟩ : ∃ r2, r2 = v % a := ⟨_, rfl⟩
  rw [← hq0, ← hr0] at S1
  rw [← hq2, ← hr2] at S2
  rw [← hq0] at T1
  rw [← hq2] at T2
  rw [← hq0, ← hr0] at M1
  rw [← hq2, ← hr2] at M2
  have LTQ0 := lt64 S1.2.1
  have LTQ2 := lt64 S2.2.1
  obtain ⟨k1, hk1⟩ : ∃ k1, k1 = u * 4294967296 % 18446744073709551616 := ⟨_, rfl⟩
  obtain ⟨k2, hk2⟩ : ∃ k2, k2 = (u * 4294967296 + m) % 18446744073709551616 := ⟨_, rfl⟩
  obtain ⟨k3, hk3⟩ : ∃ k3, k3 = Q * Y % 18446744073709551616 := ⟨_, rfl⟩
  obtain ⟨j1, hj1⟩ : ∃ j1, j1 = v * 4294967296 % 18446744073709551616 := ⟨_, rfl⟩
  obtain ⟨j2, hj2⟩ : ∃ j2, j2 = (v * 4294967296 + n) % 18446744073709551616 := ⟨_, rfl⟩
  obtain ⟨j3, hj3⟩ : ∃ j3, j3 = Q2 * Y % 18446744073709551616 := ⟨_, rfl⟩
  exact div64_core h l y s s' Y a b H L u V m n q0 (q0 * a) r0 k1 k2 k3 v q2 (q2 * a) r2 (Q * 4294967296) (Q * 4294967296 + Q2) j1 j2 j3 w4 (w4 / 2 ^ s) Q Q2 g5 g3 g4 w LZ s1 E1 E2 E3
    (e_div (a := 4294967296) ha) (by rw [hb]; exact u64_and32 Y2) E6 E7 E8 E9 E10 E11 (e_div (a := 4294967296) hm) (by rw [hn]; exact u64_and32 V2) a1 a2 b2 m2 n2
    (e_div hq0) (u64_nat LTQ0) (e_mul (mod_self' M1.1)) (e_sub M1.2.1 M1.2.2 u2) ⟨S1.1, T1, S1.2.1, Nat.lt_trans S1.2.2 a2⟩ (hide (by rw [eY]; exact uY)) (hide (by rw [eY]; exact hQ))
    (e_mul32 hk1) (e_add (e_two hk1 hk2)) (e_mul hk3) (e_rest RW1 hk2 hk3) (e_div hq2) (u64_nat LTQ2) (e_mul (mod_self' M2.1)) (e_sub M2.2.1 M2.2.2 v3) ⟨S2.1, T2, S2.2.1, Nat.lt_trans S2.2.2 a2⟩ (hide (by rw [eY]; exact vY)) (hide (by rw [eY]; exact hQ2))
    (e_mul32 (mod_self' QL.2)) (e_add (mod_self' QL.1)) (e_mul32 hj1) (e_add (e_two hj1 hj2)) (e_mul hj3) (e_rest RW2 hj2 hj3) (cast_div_pow _ _)
theorem div64_pos (h l y : Nat) (h0 : 0 < h) (hh : h < y) (hl : l < 18446744073709551616) (hy : y < 18446744073709551616) (w : World) :
    Calls Tryz.prog 71 #[.int .u64 h, .int .u64 l, .int .u64 y] w fun e w' => e = .returned (.tuple #[.int .u64 (((h * 18446744073709551616 + l) / y : Nat) : Int), .int .u64 (((h * 18446744073709551616 + l) % y : Nat) : Int)]) ∧ w = w' := by
  obtain ⟨c1, b1, b2⟩ := bitLen_bd 64 y hy (Nat.le_refl _) (by omega)
  have c2 : Lib.bitLen y ≤ 64 := Lib.bitLen_le y 64 (Nat.le_refl _) hy
  have LZ := Tryz.bits_LeadingZeros64 (y : Int) w (by omega) (by omega)
  simp only [Int.toNat_natCast] at LZ
  generalize Lib.bitLen y = c at *
  obtain ⟨g1, g2, g3, g4, g5, g6⟩ := D64.shift_parts c1 c2 b1 b2 hh hl
  have LZ' : Calls Tryz.prog 91 #[.int .u64 (y : Int)] w fun e w' => e = .returned (.int .i64 ((64 - c : Nat) : Int)) ∧ w' = w := by
    have e : (64 : Int) - (c : Int) = ((64 - c : Nat) : Int) := by omega
    rw [e] at LZ
    exact LZ
  have hP : 0 < 2 ^ (64 - c) := Nat.two_pow_pos _
  have hL : l / 2 ^ c < 18446744073709551616 := Nat.lt_of_le_of_lt (Nat.div_le_self _ _) hl
  have shv := @D64.shift_div (h * 18446744073709551616 + l) y (2 ^ (64 - c)) hP
  have E3 : IntKind.u64.wrap ((y : Int) * 2 ^ (64 - c)) = ((y * 2 ^ (64 - c) : Nat) : Int) := by rw [cast_pow]; exact u64_nat g2
  have E6 : IntKind.u64.wrap ((h : Int) * 2 ^ (64 - c)) = ((h * 2 ^ (64 - c) : Nat) : Int) := by rw [cast_pow]; exact u64_nat g3
  have E11 : IntKind.u64.wrap ((l : Int) * 2 ^ (64 - c)) = ((l * 2 ^ (64 - c) % 18446744073709551616 : Nat) : Int) := by rw [cast_pow]; exact u64_mod _
  have E10 := u64_or_nat g4 g3 hL
  have V2 : l * 2 ^ (64 - c) % 18446744073709551616 < 18446744073709551616 := Nat.mod_lt _ (by decide)
  rw [← g5] at shv
  have g6' := g6
  obtain ⟨Y, hY⟩ : ∃ Y, Y = y * 2 ^ (64 - c) := ⟨_, rfl⟩
  obtain ⟨u, hu⟩ : ∃ u, u = h * 2 ^ (64 - c) + l / 2 ^ c := ⟨_, rfl⟩
  obtain ⟨V, hV⟩ : ∃ V, V = l * 2 ^ (64 - c) % 18446744073709551616 := ⟨_, rfl⟩
  rw [← hY] at E3 g1 g2 g6
  rw [← hu] at g6 E10
  rw [← hV] at E11 V2
  rw [← hY, ← hu, ← hV] at shv
  obtain ⟨v, hv⟩ : ∃ v, v = (u * 4294967296 + V / 4294967296) % Y := ⟨_, rfl⟩
  have Y0 : 0 < Y := Nat.lt_of_lt_of_le (by decide) g1
  have TS := D64.two_steps (N := u * 4294967296 + V / 4294967296) (n := V % 4294967296) Y0
  rw [e_join, ← hv] at TS
  rw [← shv.1, ← shv.2, TS.1, TS.2]
  obtain ⟨A1, A2, A3⟩ := half_bd g1 g2
  have A4 := half_lt V2
  exact div64_inst h l y (64 - c) c Y _ _ u V _ _ _ _ v _ _ _ (by simp; omega) (by simp; omega) (by simp; omega) w LZ' (by omega) (u64_nat (by omega)) (by omega) E3 rfl rfl E6 (by rw [IntKind.wrap_u64]; omega) (by omega) (cast_div_pow _ _) E10 E11 rfl rfl A1 A2 (Nat.mod_lt _ (by decide)) A4 (Nat.mod_lt _ (by decide)) A3 g2 V2 g6 rfl hv rfl rfl
/-- Div64, wherever the high word is below the divisor -/
theorem div64_any (h l y : Nat) (hh : h < y) (hl : l < 18446744073709551616) (hy : y < 18446744073709551616) (w : World) :
    Calls Tryz.prog 71 #[.int .u64 h, .int .u64 l, .int .u64 y] w fun e w' => e = .returned (.tuple #[.int .u64 (((h * 18446744073709551616 + l) / y : Nat) : Int), .int .u64 (((h * 18446744073709551616 + l) % y : Nat) : Int)]) ∧ ∃ n, w' = w.drewN n := by
  rcases Nat.eq_zero_or_pos h with h0 | h0
  · subst h0
    simp only [Nat.zero_mul, Nat.zero_add]
    exact div64_low l y hl (by omega) hy w
  · exact (div64_pos h l y h0 hh hl hy w).mono fun _ _ ⟨e, hw⟩ => ⟨e, 0, by rw [← hw]; rfl⟩
end Go.Proofs.YtkjndkeboeieoaaGreatDoor

namespace Go.Proofs.YtkjndkeboeieoaaGreatDoor
open Go.RowKit

theorem below_dnS {B : Nat} {a w : World} (h : Below B a w) (n : Nat) : Below B a (w.drewN n) := ⟨h.os, h.tape, h.output, h.size, h.block⟩
theorem int_info : (Tryz.prog.info? 3).map (fun i => (i.zero, i.size, i.bytes)) = some (some (.int .i64 0), 1, 8) := by kernel_rfl
theorem row_drewN {w : World} {base : Nat} {e : TypeId} {size n : Nat} {v : Value} {xs : List Value} (h : w.ownsRow base e size v n xs) (m : Nat) : (w.drewN m).ownsRow base e size v n xs := h
theorem row_fresh {w : World} {base : Nat} {e : TypeId} {size n m c : Nat} {A : Option Addr} {xs : List Value} (h : w.ownsRow base e size (.slice A n c) m xs) : ∀ a, A = some a → base ≤ a.block :=
  fun a ha => (h.lt a.block (by simp [Value.ownBlock, ha])).1
theorem IntSl.of_row2 {w : World} {base : Nat} {e : TypeId} {A : Option Addr} {n m c : Nat} {l : List Int} (h : w.ownsRow base e 1 (.slice A m c) n (l.map (Value.int .i64)))
    (hb : l.length ≤ 9223372036854775807) (hr : ∀ i (h : i < l.length), -9223372036854775808 ≤ l[i] ∧ l[i] ≤ 9223372036854775807) : IntSl w A l := by
  obtain ⟨A', c', e, h⟩ := IntSl.of_row h hb hr
  injection e with e1
  subst e1
  exact h
theorem row_cap {w : World} {base : Nat} {e : TypeId} {size n m c : Nat} {A : Option Addr} {xs : List Value} (h : w.ownsRow base e size (.slice A n c) m xs) : n ≤ c := by
  rcases h.2 with ⟨h1, _⟩ | ⟨g, cap, cur, h1, _, _, h2, _⟩
  · cases h1; exact Nat.le_refl _
  · cases h1; exact h2
theorem heap_new_at {W : World} {o : Obj} {n : Nat} (h : W.heap.size = n) : (W.alloc o).heap[n]? = some o := by subst h; exact heap_alloc_new W o
def shL (t : Int) (l : List Int) : List Int := if shE t l = 0 then shK t l.sum l l.length else []
def SharePost (t : Int) (l : List Int) (w : World) (e : Ending) (w' : World) : Prop :=
  Below w.heap.size w w' ∧ ∃ (A : Option Addr) (cap : Nat), e = .returned (.tuple #[.slice A (shL t l).length cap, .int .i64 (shE t l)]) ∧ IntSl w' A (shL t l) ∧ (∀ a, A = some a → w.heap.size ≤ a.block) ∧ (shL t l).length ≤ cap
theorem SharePost.err {t : Int} {l : List Int} {w w' : World} {er : Int} (hb : Below w.heap.size w w') (he : shE t l = er) (h0 : er ≠ 0) :
    SharePost t l w (.returned (.tuple #[.slice none 0 0, .int .i64 er])) w' := by
  have e1 : shL t l = [] := by unfold shL; rw [he, if_neg h0]
  exact ⟨hb, none, 0, by rw [e1, he]; rfl, by rw [e1]; exact IntSl.nil _ _, (fun a h => by cases h), by rw [e1]; exact Nat.le_refl _⟩
theorem shE_full {t : Int} {l : List Int} (h : 10000 < l.length) : shE t l = 4 := by simp [shE, h]
theorem shE_total {t : Int} {l : List Int} (h : l.length ≤ 10000) (ht : t < 0 ∨ 1125899906842624 < t) : shE t l = 2 := by unfold shE; rw [if_neg (by omega), if_pos ht]
theorem shE_weight {t : Int} {l : List Int} (h : l.length ≤ 10000) (ht : ¬ (t < 0 ∨ 1125899906842624 < t)) {k : Nat} (hk : k < l.length) (hx : ¬ (0 ≤ l[k] ∧ l[k] ≤ 1125899906842624)) : shE t l = 2 := by
  have : wB l = false := by
    rcases Bool.eq_false_or_eq_true (wB l) with h1 | h1
    · exact absurd (wB_iff.1 h1 k hk) hx
    · exact h1
  unfold shE; rw [if_neg (by omega), if_neg ht, if_pos this]
theorem shE_rest {t : Int} {l : List Int} (h : l.length ≤ 10000) (ht : ¬ (t < 0 ∨ 1125899906842624 < t)) (hw : wOk l) : shE t l = if 1152921504606846976 < l.sum then 5 else if l.sum = 0 then 16 else 0 := by
  unfold shE; rw [if_neg (by omega), if_neg ht, if_neg (by rw [wB_iff.2 hw]; simp)]
theorem shK_bd {t S : Int} {l : List Int} (ht : 0 ≤ t) (ht' : t ≤ 1125899906842624) (hS : 0 < S) (hw : wOk l) (hs : l.sum ≤ S) (i : Nat) (h : i < (shK t S l l.length).length) : 0 ≤ (shK t S l l.length)[i] ∧ (shK t S l l.length)[i] ≤ 1125899906842624 := by
  have h' : i < l.length := by rw [shK_length] at h; exact h
  have e := shK_at t S l l.length i h'
  rw [List.getElem?_eq_getElem h] at e
  injection e with e
  rw [e]
  have b1 := qK_bd ht hS hw hs (i + 1) (by omega)
  have b0 := qK_bd ht hS hw hs i (by omega)
  have m := qK_mono ht hS hw (show i ≤ i + 1 by omega) (by omega)
  omega
set_option maxRecDepth 100000 in
set_option maxHeartbeats 4000000 in
theorem share_any (t : Int) (l : List Int) (A : Option Addr) (cap : Nat) (w : World) (hl : IntSl w A l) :
    Calls Tryz.prog 47 #[.int .i64 t, .slice A l.length cap] w (SharePost t l w) := by
  have hlen : l.length ≤ 9223372036854775807 := hl.1.1
  have HL := hide hl
  clear hl
  by_cases h1 : 10000 < l.length
  · have H := hide (shE_full (t := t) h1)
    have c1 : decide ((10000 : Int) < (l.length : Int)) = true := decide_eq_true (by omega)
    clear h1
    go_enter Tryz.func47, Tryz.ntmps47
    go_wp2
    exact bodyPost_ret (v := .tuple #[.slice none 0 0, .int .i64 4]) (by simp [results, Tryz.results47, go_sem]) rfl (SharePost.err (Below.refl _ _) H.out (by decide))
  have h1' : l.length ≤ 10000 := by omega
  have c1 : decide ((10000 : Int) < (l.length : Int)) = false := decide_eq_false (by omega)
  by_cases h2 : t < 0
  · have H := hide (shE_total (t := t) h1' (.inl h2))
    have c2 : decide (t < 0) = true := decide_eq_true h2
    clear h1 h2 h1'
    go_enter Tryz.func47, Tryz.ntmps47
    go_wp2
    exact bodyPost_ret (v := .tuple #[.slice none 0 0, .int .i64 2]) (by simp [results, Tryz.results47, go_sem]) rfl (SharePost.err (Below.refl _ _) H.out (by decide))
  have c2 : decide (t < 0) = false := decide_eq_false h2
  by_cases h3 : 1125899906842624 < t
  · have H := hide (shE_total (t := t) h1' (.inr h3))
    have c3 : decide (1125899906842624 < t) = true := decide_eq_true h3
    clear h1 h2 h1' h3
    go_enter Tryz.func47, Tryz.ntmps47
    go_wp2
    exact bodyPost_ret (v := .tuple #[.slice none 0 0, .int .i64 2]) (by simp [results, Tryz.results47, go_sem]) rfl (SharePost.err (Below.refl _ _) H.out (by decide))
  have c3 : decide (1125899906842624 < t) = false := decide_eq_false h3
  have ht : ¬ (t < 0 ∨ 1125899906842624 < t) := by omega
  obtain ⟨T, rfl⟩ : ∃ T : Nat, t = (T : Int) := ⟨t.toNat, by omega⟩
  have hT : T ≤ 1125899906842624 := by omega
  have EW := hide (fun k (hk : k < l.length) hx => shE_weight (t := (T : Int)) h1' ht hk hx)
  have ER := hide (fun hw => shE_rest (t := (T : Int)) h1' ht hw)
  have Z := hide (cap_zero l)
  have hT2 : (T : Int) ≤ 1125899906842624 := by omega
  obtain ⟨i0, hi0, hz0, hz1, hz2⟩ := info_parts int_info
  have HT := hide hT
  clear h1 h2 h3 ht hT
  go_enter Tryz.func47, Tryz.ntmps47
  go_wp2
  go_loop [6, 7, 30] (fun v6 v7 v30 => ∃ k : Nat, k ≤ l.length ∧ v30 = .int .i64 k ∧ v6 = .int .i64 (capS l k) ∧ v7 = .bool (bigS l k) ∧ Hid (∀ i (h : i < l.length), i < k → 0 ≤ l[i] ∧ l[i] ≤ 1125899906842624)) (fun _ _ v30 => l.length - (intOf v30).toNat)
  case atStart => exact ⟨0, Nat.zero_le _, rfl, by rw [Z.out.1], by rw [Z.out.2], hide (fun _ _ h => by omega)⟩
  case round =>
    obtain ⟨k, hk, rfl, rfl, rfl, HW⟩ := hrel
    by_cases hlt : k < l.length
    · obtain ⟨b, off, rfl, hbl, hat⟩ := HL.out.2 (by omega)
      have c0 := hat k hlt
      clear hat
      by_cases hx0 : l[k] < 0
      · have d0 : decide (l[k] < 0) = true := decide_eq_true hx0
        have H := hide (EW.out k hlt (by omega))
        clear hx0
        generalize l[k] = x at *
        go_wp2
        exact bodyPost_ret (v := .tuple #[.slice none 0 0, .int .i64 2]) (by simp [results, Tryz.results47, go_sem]) rfl (SharePost.err (Below.refl _ _) H.out (by decide))
      by_cases hx1 : 1125899906842624 < l[k]
      · have d0 : decide (l[k] < 0) = false := decide_eq_false hx0
        have d1 : decide (1125899906842624 < l[k]) = true := decide_eq_true hx1
        have H := hide (EW.out k hlt (by omega))
        clear hx0 hx1
        generalize l[k] = x at *
        go_wp2
        exact bodyPost_ret (v := .tuple #[.slice none 0 0, .int .i64 2]) (by simp [results, Tryz.results47, go_sem]) rfl (SharePost.err (Below.refl _ _) H.out (by decide))
      have d0 : decide (l[k] < 0) = false := decide_eq_false hx0
      have d1 : decide (1125899906842624 < l[k]) = false := decide_eq_false hx1
      have HW' : Hid (∀ i (h : i < l.length), i < k + 1 → 0 ≤ l[i] ∧ l[i] ≤ 1125899906842624) := hide fun i h hi => by
        by_cases e : i = k
        · subst e; omega
        · exact HW.out i h (by omega)
      have CS : 0 ≤ capS l k ∧ capS l k ≤ 1152921504606846976 ∧ (1152921504606846976 < capS l k + l[k] → capS l (k + 1) = 1152921504606846976 ∧ bigS l (k + 1) = true) ∧ (capS l k + l[k] ≤ 1152921504606846976 → capS l (k + 1) = capS l k + l[k] ∧ bigS l (k + 1) = bigS l k) := cap_stepK HW'.out hlt
      obtain ⟨s0, s1, s2, s3⟩ := CS
      have x0 : 0 ≤ l[k] := by omega
      have x1 : l[k] ≤ 1125899906842624 := by omega
      clear hx0 hx1
      generalize capS l k = s at *
      generalize bigS l k = g at *
      generalize l[k] = x at *
      by_cases hc : 1152921504606846976 < s + x
      · have d2 : decide (1152921504606846976 < s + x) = true := decide_eq_true hc
        have S2 := hide (s2 hc)
        clear s2 s3 hc
        go_wp2
        go_round
        case rel => exact ⟨k + 1, by omega, by go_num, by rw [S2.out.1], by rw [S2.out.2], HW'⟩
        case measure => simp [intOf]; omega
      · have d2 : decide (1152921504606846976 < s + x) = false := decide_eq_false hc
        have S2 := hide (s3 (by omega))
        clear s2 s3 hc
        go_wp2
        go_round
        case rel => exact ⟨k + 1, by omega, by go_num, by rw [S2.out.1], by rw [S2.out.2], HW'⟩
        case measure => simp [intOf]; omega
    · have e : k = l.length := by omega
      subst e
      have HW2 : Hid (wOk l) := hide fun i h => HW.out i h h
      have CA := cap_all (l := l)
      have E := ER.out HW2.out
      rw [CA.1, CA.2]
      clear HW CA
      by_cases hb : 1152921504606846976 < l.sum
      · rw [if_pos hb] at E
        rw [if_pos hb, decide_eq_true hb]
        have H := hide E
        clear E hb
        go_wp2
        exact bodyPost_ret (v := .tuple #[.slice none 0 0, .int .i64 5]) (by simp [results, Tryz.results47, go_sem]) rfl (SharePost.err (Below.refl _ _) H.out (by decide))
      rw [if_neg hb] at E
      rw [if_neg hb, decide_eq_false hb]
      by_cases hz : l.sum = 0
      · rw [if_pos hz] at E
        rw [hz]
        have H := hide E
        clear E hb hz
        go_wp2
        exact bodyPost_ret (v := .tuple #[.slice none 0 0, .int .i64 16]) (by simp [results, Tryz.results47, go_sem]) rfl (SharePost.err (Below.refl _ _) H.out (by decide))
      rw [if_neg hz] at E
      have hp := (preS_bd HW2.out l.length (Nat.le_refl _)).1
      rw [preS_all] at hp
      obtain ⟨SS, hSS⟩ : ∃ SS : Nat, l.sum = (SS : Int) := ⟨l.sum.toNat, by omega⟩
      rw [hSS]
      have hS0 : 0 < SS := by omega
      have hS1 : SS ≤ 1152921504606846976 := by omega
      have d3 : ((SS : Int) == 0) = false := by simp; omega
      have hS2 : (SS : Int) ≤ 1152921504606846976 := by omega
      have ST := hide (fun k (hk : k < l.length) => share_step HT.out hSS hS0 hS1 HW2.out k hk)
      have HE := hide (And.intro E (And.intro hSS (And.intro hS0 hS1)))
      clear E hb hz hp hSS hS0 hS1
      have MK : ∀ W : World, (Instr.makeSlice 22 (.int .i64 0) (.int .i64 (l.length : Int))).run Tryz.prog W = .ok (.slice (some ⟨W.heap.size, 0, none⟩) 0 l.length) (W.alloc (.cells (madeCells (Value.int .i64 0).cells (l.length * 1)) 3)) := fun W => by
        have := run_make_rowN (P := Tryz.prog) 22 3 i0 (.int .i64 0) Tryz.underlying22 hi0 hz0 .i64 .i64 0 l.length (by omega) (by rw [hz2]; omega) (by omega) W
        rw [hz1] at this
        exact this
      go_wp2
      have hm0 : (madeCells #[Value.int .i64 0] l.length).size = l.length * 1 := by simp [madeCells]
      have hrow0 := World.ownsRow_made (base := w.heap.size) (e := 3) (size := 1) w (madeCells #[Value.int .i64 0] l.length) l.length (Nat.le_refl _) (by unfold maxLen; omega) hm0
      have hB0 : Below w.heap.size w (w.alloc (.cells (madeCells #[Value.int .i64 0] l.length) 3)) := (Below.refl _ _).alloc (Nat.le_refl _) _
      clear hm0 MK
      go_loopw [10, 11, 12, 56] (fun v10 v11 v12 v56 wr => ∃ k : Nat, k ≤ l.length ∧ v56 = .int .i64 k ∧ v11 = .int .i64 (preS l k) ∧ v12 = .int .i64 (qK (T : Int) (SS : Int) l k) ∧
        Hid (Below w.heap.size w wr ∧ wr.ownsRow w.heap.size 3 1 v10 k ((shK (T : Int) (SS : Int) l k).map (Value.int .i64)))) (fun _ _ _ v56 _ => l.length - (intOf v56).toNat)
      case atStart => exact ⟨0, Nat.zero_le _, rfl, by rw [preS_zero], by rw [qK_zero], hide ⟨hB0, hrow0⟩⟩
      case round =>
        obtain ⟨k, hk, rfl, rfl, rfl, HR⟩ := hrel
        clear hrow0 hB0
        by_cases hlt : k < l.length
        · obtain ⟨b, off, rfl, hbl, hat⟩ := (HL.out.below HR.out.1).2 (by omega)
          have c0 := hat k hlt
          obtain ⟨F, Q, f1, f2, f3, f4, f5, f6, f7, f8, f9, f10, f11⟩ := ST.out k hlt
          have M64 := fun W => Tryz.bits_Mul64 T F (by omega) (by omega) W
          have D64 := fun W => div64_any (T * F / 18446744073709551616) (T * F % 18446744073709551616) SS f3 f4 (by omega) W
          rw [f5] at D64
          have eF : preS l k + l[k] = (F : Int) := by rw [← f1, preS_succ l k hlt]
          have EQ := hide (And.intro f1 f6)
          have b2 : (F : Int) ≤ 1152921504606846976 := by omega
          have b3 : (Q : Int) ≤ 1125899906842624 := by omega
          have ES : Hid (shK (T : Int) (SS : Int) l (k + 1) = shK (T : Int) (SS : Int) l k ++ [(Q : Int) - qK (T : Int) (SS : Int) l k]) := hide (by rw [← f6]; rfl)
          clear hat f1 f2 f3 f4 f5 f6 f7
          generalize T * F / 18446744073709551616 = hi at *
          generalize T * F % 18446744073709551616 = lo at *
          generalize (hi * 18446744073709551616 + lo) % SS = rs at *
          generalize preS l k = p at *
          generalize qK (T : Int) (SS : Int) l k = q at *
          generalize hR : shK (T : Int) (SS : Int) l k = R at *
          generalize l[k] = x at *
          clear hR
          go_wp2_with fail
          refine (M64 _).mono ?_
          rintro e w' ⟨rfl, rfl⟩
          go_wp2_with fail
          refine (D64 _).mono ?_
          rintro e w' ⟨rfl, m, rfl⟩
          have HR := hide (And.intro (below_dnS HR.out.1 m) (row_drewN HR.out.2 m))
          generalize World.drewN _ m = W at *
          go_wp2_with (at_builtin; refine wpList_append_own _ rfl _ _ 22 rfl w.heap.size 3 i0 (.int .i64 0) 1 8 Tryz.underlying22 hi0 hz0 hz1 hz2 rfl (by decide) _ k (R.map (Value.int .i64)) rfl (HR.out.2.alloc (.cells #[.int .i64 ((Q : Int) - q)] 3)) ⟨W.heap.size, 0, none⟩ 1 1 [.int .i64 ((Q : Int) - q)] rfl rfl (World.news_of_block (cs := #[.int .i64 ((Q : Int) - q)]) (t := 3) (fr := (0, 0)) (heap_new_at (by rfl))) (by simp [Value.oneCell']) (by unfold maxLen; omega) (by omega) (by have := HR.out.1.size; simp; omega) ?_; intro v4 w4 hown4 hgrow _)
          have B5 : Below w.heap.size w w4 := (HR.out.1.alloc HR.out.1.size (.cells #[.int .i64 ((Q : Int) - q)] 3)).grown hgrow (by have := HR.out.1.size; simp; omega) (fun k hk => ((HR.out.2.alloc (.cells #[.int .i64 ((Q : Int) - q)] 3)).lt k hk).1)
          have B4 := hide (And.intro B5 hown4)
          clear B5
          clear hown4 hgrow
          go_roundw
          case rel => exact ⟨k + 1, by omega, by go_num, by rw [EQ.out.1], by rw [EQ.out.2], hide ⟨B4.out.1, by rw [ES.out, List.map_append]; exact B4.out.2⟩⟩
          case measure => simp [intOf]; omega
        · have e : k = l.length := by omega
          subst e
          obtain ⟨E, e1, e2, e3⟩ := HE.out
          have hbd : ∀ i (h : i < (shK (T : Int) (SS : Int) l l.length).length), -9223372036854775808 ≤ (shK (T : Int) (SS : Int) l l.length)[i] ∧ (shK (T : Int) (SS : Int) l l.length)[i] ≤ 9223372036854775807 := fun i h => by
            have := shK_bd (t := (T : Int)) (S := (SS : Int)) (by omega) (by omega) (by omega) HW2.out (by omega) i h
            omega
          have hll := shK_length (T : Int) (SS : Int) l l.length
          obtain ⟨A', cp, rfl, hsl⟩ := IntSl.of_row HR.out.2 (by omega) hbd
          have hfr := And.intro (row_fresh HR.out.2) (row_cap HR.out.2)
          have eL : shL (T : Int) l = shK (T : Int) (SS : Int) l l.length := by unfold shL; rw [E, if_pos rfl, e1]
          have FIN := hide (And.intro HR.out.1 (And.intro hsl (And.intro hfr (And.intro eL E))))
          clear hsl hfr eL E e1 e2 e3 hbd hll
          go_wp2
          exact bodyPost_ret (v := .tuple #[.slice A' (shK (T : Int) (SS : Int) l l.length).length cp, .int .i64 0]) (by simp [results, Tryz.results47, go_sem]) rfl
            ⟨FIN.out.1, A', cp, by rw [FIN.out.2.2.2.1, FIN.out.2.2.2.2], by rw [FIN.out.2.2.2.1]; exact FIN.out.2.1, FIN.out.2.2.1.1, by rw [FIN.out.2.2.2.1]; exact FIN.out.2.2.1.2⟩
end Go.Proofs.YtkjndkeboeieoaaGreatDoor
