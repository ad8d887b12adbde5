/- math/bits.Div64: it returns quotient and rest of two words by one, wherever the high word is below the divisor; it leaves memory as it is. -/
import Derived.Test.YtnhimgabcljahaaGreatDoorDivLow
import Derived.Test.YtnhimgabcljahaaGreatDoorDiv64P
import Derived.Test.YtnhimgabcljahaaGreatDoorShelf2
namespace Go.Proofs.YtnhimgabcljahaaGreatDoor
open Go.RowKit

theorem bitLen_bd : ∀ (k x : Nat), x < 2 ^ k → k ≤ 64 → 0 < x → 1 ≤ Lib.bitLen x ∧ 2 ^ (Lib.bitLen x - 1) ≤ x ∧ x < 2 ^ Lib.bitLen x
  | 0, x, h, _, h0 => by simp at h; omega
  | k + 1, x, h, hk, h0 => by
    have h64 : x < 2 ^ 64 := Nat.lt_of_lt_of_le h (Nat.pow_le_pow_right (by omega) hk)
    rw [Lib.bitLen_half x (by omega) h64]
    rcases Nat.eq_zero_or_pos (x / 2) with h1 | h1
    · have : x = 1 := by omega
      subst this
      decide
    · have hs : x / 2 < 2 ^ k := by rw [Nat.pow_succ] at h; omega
      obtain ⟨i1, i2, i3⟩ := bitLen_bd k (x / 2) hs (by omega) h1
      generalize Lib.bitLen (x / 2) = n at *
      obtain ⟨m, rfl⟩ : ∃ m, n = m + 1 := ⟨n - 1, by omega⟩
      have e1 : 2 ^ (1 + (m + 1) - 1) = 2 ^ m * 2 := by rw [show 1 + (m + 1) - 1 = m + 1 by omega, Nat.pow_succ]
      have e2 : 2 ^ (1 + (m + 1)) = 2 ^ (m + 1) * 2 := by rw [Nat.add_comm, Nat.pow_succ]
      simp only [Nat.add_sub_cancel] at i2
      refine ⟨by omega, ?_, ?_⟩
      · rw [e1]; omega
      · rw [e2]; omega
set_option maxRecDepth 100000 in
set_option maxHeartbeats 16000000 in
theorem div64_core (h l y s s' Y a b H L u V m n q0 p0 r0 k1 k2 k3 v q2 p2 r2 z1 z2 j1 j2 j3 j4 rem Q Q2 : Nat) (g5 : decide (y ≤ h) = false) (g3 : ((y : Int) == 0) = false) (g4 : ((h : Int) == 0) = false) (w : World)
    (LZ : Calls Tryz.prog 107 #[.int .u64 (y : Int)] w fun e w' => e = .returned (.int .i64 (s : Int)) ∧ w' = w)
    (s1 : s < 64) (E1 : IntKind.u64.wrap (s : Int) = (s : Int)) (E2 : min s 64 = s) (E3 : IntKind.u64.wrap ((y : Int) * 2 ^ s) = (Y : Int)) (E4 : (Y : Int) / 4294967296 = (a : Int)) (E5 : bits .and .u64 (Y : Int) 4294967295 = (b : Int))
    (E6 : IntKind.u64.wrap ((h : Int) * 2 ^ s) = (H : Int)) (E7 : IntKind.u64.wrap (64 - (s : Int)) = (s' : Int)) (E8 : min s' 64 = s') (E9 : (l : Int) / 2 ^ s' = (L : Int)) (E10 : bits .or .u64 (H : Int) (L : Int) = (u : Int))
    (E11 : IntKind.u64.wrap ((l : Int) * 2 ^ s) = (V : Int)) (E12 : (V : Int) / 4294967296 = (m : Int)) (E13 : bits .and .u64 (V : Int) 4294967295 = (n : Int))
    (a1 : 2147483648 ≤ a) (a2 : a < 4294967296) (b2 : b < 4294967296) (m2 : m < 4294967296) (n2 : n < 4294967296)
    (E14 : (u : Int) / (a : Int) = (q0 : Int)) (E14' : IntKind.u64.wrap (q0 : Int) = (q0 : Int)) (E15 : IntKind.u64.wrap ((q0 : Int) * (a : Int)) = (p0 : Int)) (E16 : IntKind.u64.wrap ((u : Int) - (p0 : Int)) = (r0 : Int))
    (R1 : D64.Rel u a b m q0 r0) (uY : Hid (u < a * 4294967296 + b)) (HQ : Hid (Q = (u * 4294967296 + m) / (a * 4294967296 + b)))
    (F1 : IntKind.u64.wrap ((u : Int) * 4294967296) = (k1 : Int)) (F2 : IntKind.u64.wrap ((k1 : Int) + (m : Int)) = (k2 : Int)) (F3 : IntKind.u64.wrap ((Q : Int) * (Y : Int)) = (k3 : Int)) (F4 : IntKind.u64.wrap ((k2 : Int) - (k3 : Int)) = (v : Int))
    (F5 : (v : Int) / (a : Int) = (q2 : Int)) (F5' : IntKind.u64.wrap (q2 : Int) = (q2 : Int)) (F6 : IntKind.u64.wrap ((q2 : Int) * (a : Int)) = (p2 : Int)) (F7 : IntKind.u64.wrap ((v : Int) - (p2 : Int)) = (r2 : Int))
    (R2 : D64.Rel v a b n q2 r2) (vY : Hid (v < a * 4294967296 + b)) (HQ2 : Hid (Q2 = (v * 4294967296 + n) / (a * 4294967296 + b)))
    (G1 : IntKind.u64.wrap ((Q : Int) * 4294967296) = (z1 : Int)) (G2 : IntKind.u64.wrap ((z1 : Int) + (Q2 : Int)) = (z2 : Int))
    (G3 : IntKind.u64.wrap ((v : Int) * 4294967296) = (j1 : Int)) (G4 : IntKind.u64.wrap ((j1 : Int) + (n : Int)) = (j2 : Int)) (G5 : IntKind.u64.wrap ((Q2 : Int) * (Y : Int)) = (j3 : Int)) (G6 : IntKind.u64.wrap ((j2 : Int) - (j3 : Int)) = (j4 : Int)) (G7 : (j4 : Int) / 2 ^ s = (rem : Int)) :
    Calls Tryz.prog 93 #[.int .u64 h, .int .u64 l, .int .u64 y] w fun e w' => e = .returned (.tuple #[.int .u64 (z2 : Int), .int .u64 (rem : Int)]) ∧ w = w' := by
  have a0 : a ≠ 0 := by omega
  have a3 : ((a : Int) == 0) = false := by simp; omega
  have a4 : (0 : Int) < (a : Int) := by omega
  have HR1 := hide R1
  have HR2 := hide R2
  clear R1 R2
  go_enter Tryz.func93, Tryz.ntmps93
  go_wp2_with fail
  refine LZ.mono ?_
  rintro e w' ⟨rfl, rfl⟩
  go_wp2
  go_loop [15, 16] (fun vq v16 => ∃ q r : Nat, vq = .int .u64 q ∧ v16 = .int .u64 r ∧ Hid (D64.Rel u a b m q r)) (fun vq _ => (intOf vq).toNat)
  case atStart => exact ⟨_, _, rfl, rfl, HR1.out⟩
  case round =>
    obtain ⟨q, r, rfl, rfl, hrel⟩ := hrel
    have bd := hrel.out.bounds b2 m2
    have q4 := hrel.out.2.2.1
    have r4 := hrel.out.2.2.2
    obtain ⟨x, hx⟩ : ∃ x : Nat, x = q * b := ⟨_, rfl⟩
    have W1 : IntKind.u64.wrap ((q : Int) * (b : Int)) = (x : Int) := by rw [IntKind.wrap_u64, hx, ← Int.natCast_mul]; rw [← hx] at bd ⊢; omega
    have W2 : IntKind.u64.wrap (4294967296 * (r : Int)) = ((4294967296 * r : Nat) : Int) := by rw [IntKind.wrap_u64]; omega
    obtain ⟨r', hr'⟩ : ∃ r' : Nat, r' = 4294967296 * r := ⟨_, rfl⟩
    rw [← hr'] at W2
    obtain ⟨tt, htt⟩ : ∃ tt : Nat, tt = r' + m := ⟨_, rfl⟩
    have W3 : IntKind.u64.wrap ((r' : Int) + (m : Int)) = (tt : Int) := by rw [IntKind.wrap_u64]; omega
    have W5 : IntKind.u64.wrap ((r : Int) + (a : Int)) = ((r + a : Nat) : Int) := by rw [IntKind.wrap_u64]; omega
    obtain ⟨ra, hra⟩ : ∃ ra : Nat, ra = r + a := ⟨_, rfl⟩
    rw [← hra] at W5
    have hc : (4294967296 ≤ q) ∨ (q < 4294967296 ∧ tt < x) ∨ (q < 4294967296 ∧ x ≤ tt) := by omega
    have HX := hide hx
    have HT := hide htt
    have HR' := hide hr'
    have HRA := hide hra
    have QI := q4
    clear bd hx htt hr' hra
    rcases hc with hc | ⟨hc, hc'⟩ | ⟨hc, hc'⟩
    · have dn := hrel.out.down (by omega) uY.out m2 a2 b2 (.inl hc)
      rw [← HRA.out] at dn
      obtain ⟨d1, d2, d3, d4⟩ := dn
      have W4 : IntKind.u64.wrap ((q : Int) - 1) = ((q - 1 : Nat) : Int) := by rw [IntKind.wrap_u64]; omega
      obtain ⟨qm, hqm⟩ : ∃ qm : Nat, qm = q - 1 := ⟨_, rfl⟩
      rw [← hqm] at W4 d3 d4
      have HQM := hide hqm
      have D3 := hide d3
      have D4 := hide d4
      have t1 : decide (4294967296 ≤ q) = true := by simp; omega
      have t1' : decide ((4294967296 : Int) ≤ (q : Int)) = true := by simp; omega
      have md : Hid (qm < q) := hide (by omega)
      clear hqm d3 d4 d1 d2 q4 r4
      rcases Nat.lt_or_ge ra 4294967296 with hb4 | hb4
      · have t3 : decide (4294967296 ≤ ra) = false := by simp; omega
        have t3' : decide ((4294967296 : Int) ≤ (ra : Int)) = false := by simp; omega
        go_wp2
        go_round
        case rel => exact ⟨qm, ra, rfl, rfl, D3.out hb4⟩
        case measure => have := md.out; simp [intOf]; omega
      · have t3 : decide (4294967296 ≤ ra) = true := by simp; omega
        have t3' : decide ((4294967296 : Int) ≤ (ra : Int)) = true := by simp; omega
        obtain rfl : qm = Q := (D4.out hb4).trans HQ.out.symm
        clear D3 D4
        go_wp2
        go_loop [18, 16] (fun vq v16 => ∃ q r : Nat, vq = .int .u64 q ∧ v16 = .int .u64 r ∧ Hid (D64.Rel v a b n q r)) (fun vq _ => (intOf vq).toNat)
        case atStart => exact ⟨_, _, rfl, rfl, HR2.out⟩
        case round =>
          obtain ⟨q, r, rfl, rfl, hrel⟩ := hrel
          have bd := hrel.out.bounds b2 n2
          have q4 := hrel.out.2.2.1
          have r4 := hrel.out.2.2.2
          obtain ⟨x, hx⟩ : ∃ x : Nat, x = q * b := ⟨_, rfl⟩
          have W1 : IntKind.u64.wrap ((q : Int) * (b : Int)) = (x : Int) := by rw [IntKind.wrap_u64, hx, ← Int.natCast_mul]; rw [← hx] at bd ⊢; omega
          have W2 : IntKind.u64.wrap (4294967296 * (r : Int)) = ((4294967296 * r : Nat) : Int) := by rw [IntKind.wrap_u64]; omega
          obtain ⟨r', hr'⟩ : ∃ r' : Nat, r' = 4294967296 * r := ⟨_, rfl⟩
          rw [← hr'] at W2
          obtain ⟨tt, htt⟩ : ∃ tt : Nat, tt = r' + n := ⟨_, rfl⟩
          have W3 : IntKind.u64.wrap ((r' : Int) + (n : Int)) = (tt : Int) := by rw [IntKind.wrap_u64]; omega
          have W5 : IntKind.u64.wrap ((r : Int) + (a : Int)) = ((r + a : Nat) : Int) := by rw [IntKind.wrap_u64]; omega
          obtain ⟨ra, hra⟩ : ∃ ra : Nat, ra = r + a := ⟨_, rfl⟩
          rw [← hra] at W5
          have hc : (4294967296 ≤ q) ∨ (q < 4294967296 ∧ tt < x) ∨ (q < 4294967296 ∧ x ≤ tt) := by omega
          have HX := hide hx
          have HT := hide htt
          have HR' := hide hr'
          have HRA := hide hra
          have QI := q4
          clear bd hx htt hr' hra
          rcases hc with hc | ⟨hc, hc'⟩ | ⟨hc, hc'⟩
          · have dn := hrel.out.down (by omega) vY.out n2 a2 b2 (.inl hc)
            rw [← HRA.out] at dn
            obtain ⟨d1, d2, d3, d4⟩ := dn
            have W4 : IntKind.u64.wrap ((q : Int) - 1) = ((q - 1 : Nat) : Int) := by rw [IntKind.wrap_u64]; omega
            obtain ⟨qm, hqm⟩ : ∃ qm : Nat, qm = q - 1 := ⟨_, rfl⟩
            rw [← hqm] at W4 d3 d4
            have HQM := hide hqm
            have D3 := hide d3
            have D4 := hide d4
            have t1 : decide (4294967296 ≤ q) = true := by simp; omega
            have t1' : decide ((4294967296 : Int) ≤ (q : Int)) = true := by simp; omega
            have md : Hid (qm < q) := hide (by omega)
            clear hqm d3 d4 d1 d2 q4 r4
            rcases Nat.lt_or_ge ra 4294967296 with hb4 | hb4
            · have t3 : decide (4294967296 ≤ ra) = false := by simp; omega
              have t3' : decide ((4294967296 : Int) ≤ (ra : Int)) = false := by simp; omega
              go_wp2
              go_round
              case rel => exact ⟨qm, ra, rfl, rfl, D3.out hb4⟩
              case measure => have := md.out; simp [intOf]; omega
            · have t3 : decide (4294967296 ≤ ra) = true := by simp; omega
              have t3' : decide ((4294967296 : Int) ≤ (ra : Int)) = true := by simp; omega
              obtain rfl : qm = Q2 := (D4.out hb4).trans HQ2.out.symm
              clear D3 D4
              go_wp2
              go_ret2
              exact ⟨rfl, rfl⟩
          · have dn := hrel.out.down (by omega) vY.out n2 a2 b2 (.inr (by rw [← HX.out, ← HR'.out, ← HT.out]; exact hc'))
            rw [← HRA.out] at dn
            obtain ⟨d1, d2, d3, d4⟩ := dn
            have W4 : IntKind.u64.wrap ((q : Int) - 1) = ((q - 1 : Nat) : Int) := by rw [IntKind.wrap_u64]; omega
            obtain ⟨qm, hqm⟩ : ∃ qm : Nat, qm = q - 1 := ⟨_, rfl⟩
            rw [← hqm] at W4 d3 d4
            have HQM := hide hqm
            have D3 := hide d3
            have D4 := hide d4
            have t1 : decide (4294967296 ≤ q) = false := by simp; omega
            have t1' : decide ((4294967296 : Int) ≤ (q : Int)) = false := by simp; omega
            have t2 : decide (tt < x) = true := by simp; omega
            have md : Hid (qm < q) := hide (by omega)
            clear hqm d3 d4 d1 d2 q4 r4
            rcases Nat.lt_or_ge ra 4294967296 with hb4 | hb4
            · have t3 : decide (4294967296 ≤ ra) = false := by simp; omega
              have t3' : decide ((4294967296 : Int) ≤ (ra : Int)) = false := by simp; omega
              go_wp2
              go_round
              case rel => exact ⟨qm, ra, rfl, rfl, D3.out hb4⟩
              case measure => have := md.out; simp [intOf]; omega
            · have t3 : decide (4294967296 ≤ ra) = true := by simp; omega
              have t3' : decide ((4294967296 : Int) ≤ (ra : Int)) = true := by simp; omega
              obtain rfl : qm = Q2 := (D4.out hb4).trans HQ2.out.symm
              clear D3 D4
              go_wp2
              go_ret2
              exact ⟨rfl, rfl⟩
          · have dn := hide (hrel.out.done (by omega) (by rw [← HX.out, ← HR'.out, ← HT.out]; omega))
            have t1 : decide (4294967296 ≤ q) = false := by simp; omega
            have t1' : decide ((4294967296 : Int) ≤ (q : Int)) = false := by simp; omega
            have t2 : decide (tt < x) = false := by simp; omega
            obtain rfl : q = Q2 := dn.out.trans HQ2.out.symm
            clear q4 r4
            go_wp2
            go_ret2
            exact ⟨rfl, rfl⟩
    · have dn := hrel.out.down (by omega) uY.out m2 a2 b2 (.inr (by rw [← HX.out, ← HR'.out, ← HT.out]; exact hc'))
      rw [← HRA.out] at dn
      obtain ⟨d1, d2, d3, d4⟩ := dn
      have W4 : IntKind.u64.wrap ((q : Int) - 1) = ((q - 1 : Nat) : Int) := by rw [IntKind.wrap_u64]; omega
      obtain ⟨qm, hqm⟩ : ∃ qm : Nat, qm = q - 1 := ⟨_, rfl⟩
      rw [← hqm] at W4 d3 d4
      have HQM := hide hqm
      have D3 := hide d3
      have D4 := hide d4
      have t1 : decide (4294967296 ≤ q) = false := by simp; omega
      have t1' : decide ((4294967296 : Int) ≤ (q : Int)) = false := by simp; omega
      have t2 : decide (tt < x) = true := by simp; omega
      have md : Hid (qm < q) := hide (by omega)
      clear hqm d3 d4 d1 d2 q4 r4
      rcases Nat.lt_or_ge ra 4294967296 with hb4 | hb4
      · have t3 : decide (4294967296 ≤ ra) = false := by simp; omega
        have t3' : decide ((4294967296 : Int) ≤ (ra : Int)) = false := by simp; omega
        go_wp2
        go_round
        case rel => exact ⟨qm, ra, rfl, rfl, D3.out hb4⟩
        case measure => have := md.out; simp [intOf]; omega
      · have t3 : decide (4294967296 ≤ ra) = true := by simp; omega
        have t3' : decide ((4294967296 : Int) ≤ (ra : Int)) = true := by simp; omega
        obtain rfl : qm = Q := (D4.out hb4).trans HQ.out.symm
        clear D3 D4
        go_wp2
        go_loop [18, 16] (fun vq v16 => ∃ q r : Nat, vq = .int .u64 q ∧ v16 = .int .u64 r ∧ Hid (D64.Rel v a b n q r)) (fun vq _ => (intOf vq).toNat)
        case atStart => exact ⟨_, _, rfl, rfl, HR2.out⟩
        case round =>
          obtain ⟨q, r, rfl, rfl, hrel⟩ := hrel
          have bd := hrel.out.bounds b2 n2
          have q4 := hrel.out.2.2.1
          have r4 := hrel.out.2.2.2
          obtain ⟨x, hx⟩ : ∃ x : Nat, x = q * b := ⟨_, rfl⟩
          have W1 : IntKind.u64.wrap ((q : Int) * (b : Int)) = (x : Int) := by rw [IntKind.wrap_u64, hx, ← Int.natCast_mul]; rw [← hx] at bd ⊢; omega
          have W2 : IntKind.u64.wrap (4294967296 * (r : Int)) = ((4294967296 * r : Nat) : Int) := by rw [IntKind.wrap_u64]; omega
          obtain ⟨r', hr'⟩ : ∃ r' : Nat, r' = 4294967296 * r := ⟨_, rfl⟩
          rw [← hr'] at W2
          obtain ⟨tt, htt⟩ : ∃ tt : Nat, tt = r' + n := ⟨_, rfl⟩
          have W3 : IntKind.u64.wrap ((r' : Int) + (n : Int)) = (tt : Int) := by rw [IntKind.wrap_u64]; omega
          have W5 : IntKind.u64.wrap ((r : Int) + (a : Int)) = ((r + a : Nat) : Int) := by rw [IntKind.wrap_u64]; omega
          obtain ⟨ra, hra⟩ : ∃ ra : Nat, ra = r + a := ⟨_, rfl⟩
          rw [← hra] at W5
          have hc : (4294967296 ≤ q) ∨ (q < 4294967296 ∧ tt < x) ∨ (q < 4294967296 ∧ x ≤ tt) := by omega
          have HX := hide hx
          have HT := hide htt
          have HR' := hide hr'
          have HRA := hide hra
          have QI := q4
          clear bd hx htt hr' hra
          rcases hc with hc | ⟨hc, hc'⟩ | ⟨hc, hc'⟩
          · have dn := hrel.out.down (by omega) vY.out n2 a2 b2 (.inl hc)
            rw [← HRA.out] at dn
            obtain ⟨d1, d2, d3, d4⟩ := dn
            have W4 : IntKind.u64.wrap ((q : Int) - 1) = ((q - 1 : Nat) : Int) := by rw [IntKind.wrap_u64]; omega
            obtain ⟨qm, hqm⟩ : ∃ qm : Nat, qm = q - 1 := ⟨_, rfl⟩
            rw [← hqm] at W4 d3 d4
            have HQM := hide hqm
            have D3 := hide d3
            have D4 := hide d4
            have t1 : decide (4294967296 ≤ q) = true := by simp; omega
            have t1' : decide ((4294967296 : Int) ≤ (q : Int)) = true := by simp; omega
            have md : Hid (qm < q) := hide (by omega)
            clear hqm d3 d4 d1 d2 q4 r4
            rcases Nat.lt_or_ge ra 4294967296 with hb4 | hb4
            · have t3 : decide (4294967296 ≤ ra) = false := by simp; omega
              have t3' : decide ((4294967296 : Int) ≤ (ra : Int)) = false := by simp; omega
              go_wp2
              go_round
              case rel => exact ⟨qm, ra, rfl, rfl, D3.out hb4⟩
              case measure => have := md.out; simp [intOf]; omega
            · have t3 : decide (4294967296 ≤ ra) = true := by simp; omega
              have t3' : decide ((4294967296 : Int) ≤ (ra : Int)) = true := by simp; omega
              obtain rfl : qm = Q2 := (D4.out hb4).trans HQ2.out.symm
              clear D3 D4
              go_wp2
              go_ret2
              exact ⟨rfl, rfl⟩
          · have dn := hrel.out.down (by omega) vY.out n2 a2 b2 (.inr (by rw [← HX.out, ← HR'.out, ← HT.out]; exact hc'))
            rw [← HRA.out] at dn
            obtain ⟨d1, d2, d3, d4⟩ := dn
            have W4 : IntKind.u64.wrap ((q : Int) - 1) = ((q - 1 : Nat) : Int) := by rw [IntKind.wrap_u64]; omega
            obtain ⟨qm, hqm⟩ : ∃ qm : Nat, qm = q - 1 := ⟨_, rfl⟩
            rw [← hqm] at W4 d3 d4
            have HQM := hide hqm
            have D3 := hide d3
            have D4 := hide d4
            have t1 : decide (4294967296 ≤ q) = false := by simp; omega
            have t1' : decide ((4294967296 : Int) ≤ (q : Int)) = false := by simp; omega
            have t2 : decide (tt < x) = true := by simp; omega
            have md : Hid (qm < q) := hide (by omega)
            clear hqm d3 d4 d1 d2 q4 r4
            rcases Nat.lt_or_ge ra 4294967296 with hb4 | hb4
            · have t3 : decide (4294967296 ≤ ra) = false := by simp; omega
              have t3' : decide ((4294967296 : Int) ≤ (ra : Int)) = false := by simp; omega
              go_wp2
              go_round
              case rel => exact ⟨qm, ra, rfl, rfl, D3.out hb4⟩
              case measure => have := md.out; simp [intOf]; omega
            · have t3 : decide (4294967296 ≤ ra) = true := by simp; omega
              have t3' : decide ((4294967296 : Int) ≤ (ra : Int)) = true := by simp; omega
              obtain rfl : qm = Q2 := (D4.out hb4).trans HQ2.out.symm
              clear D3 D4
              go_wp2
              go_ret2
              exact ⟨rfl, rfl⟩
          · have dn := hide (hrel.out.done (by omega) (by rw [← HX.out, ← HR'.out, ← HT.out]; omega))
            have t1 : decide (4294967296 ≤ q) = false := by simp; omega
            have t1' : decide ((4294967296 : Int) ≤ (q : Int)) = false := by simp; omega
            have t2 : decide (tt < x) = false := by simp; omega
            obtain rfl : q = Q2 := dn.out.trans HQ2.out.symm
            clear q4 r4
            go_wp2
            go_ret2
            exact ⟨rfl, rfl⟩
    · have dn := hide (hrel.out.done (by omega) (by rw [← HX.out, ← HR'.out, ← HT.out]; omega))
      have t1 : decide (4294967296 ≤ q) = false := by simp; omega
      have t1' : decide ((4294967296 : Int) ≤ (q : Int)) = false := by simp; omega
      have t2 : decide (tt < x) = false := by simp; omega
      obtain rfl : q = Q := dn.out.trans HQ.out.symm
      clear q4 r4
      go_wp2
      go_loop [18, 16] (fun vq v16 => ∃ q r : Nat, vq = .int .u64 q ∧ v16 = .int .u64 r ∧ Hid (D64.Rel v a b n q r)) (fun vq _ => (intOf vq).toNat)
      case atStart => exact ⟨_, _, rfl, rfl, HR2.out⟩
      case round =>
        obtain ⟨q, r, rfl, rfl, hrel⟩ := hrel
        have bd := hrel.out.bounds b2 n2
        have q4 := hrel.out.2.2.1
        have r4 := hrel.out.2.2.2
        obtain ⟨x, hx⟩ : ∃ x : Nat, x = q * b := ⟨_, rfl⟩
        have W1 : IntKind.u64.wrap ((q : Int) * (b : Int)) = (x : Int) := by rw [IntKind.wrap_u64, hx, ← Int.natCast_mul]; rw [← hx] at bd ⊢; omega
        have W2 : IntKind.u64.wrap (4294967296 * (r : Int)) = ((4294967296 * r : Nat) : Int) := by rw [IntKind.wrap_u64]; omega
        obtain ⟨r', hr'⟩ : ∃ r' : Nat, r' = 4294967296 * r := ⟨_, rfl⟩
        rw [← hr'] at W2
        obtain ⟨tt, htt⟩ : ∃ tt : Nat, tt = r' + n := ⟨_, rfl⟩
        have W3 : IntKind.u64.wrap ((r' : Int) + (n : Int)) = (tt : Int) := by rw [IntKind.wrap_u64]; omega
        have W5 : IntKind.u64.wrap ((r : Int) + (a : Int)) = ((r + a : Nat) : Int) := by rw [IntKind.wrap_u64]; omega
        obtain ⟨ra, hra⟩ : ∃ ra : Nat, ra = r + a := ⟨_, rfl⟩
        rw [← hra] at W5
        have hc : (4294967296 ≤ q) ∨ (q < 4294967296 ∧ tt < x) ∨ (q < 4294967296 ∧ x ≤ tt) := by omega
        have HX := hide hx
        have HT := hide htt
        have HR' := hide hr'
        have HRA := hide hra
        have QI := q4
        clear bd hx htt hr' hra
        rcases hc with hc | ⟨hc, hc'⟩ | ⟨hc, hc'⟩
        · have dn := hrel.out.down (by omega) vY.out n2 a2 b2 (.inl hc)
          rw [← HRA.out] at dn
          obtain ⟨d1, d2, d3, d4⟩ := dn
          have W4 : IntKind.u64.wrap ((q : Int) - 1) = ((q - 1 : Nat) : Int) := by rw [IntKind.wrap_u64]; omega
          obtain ⟨qm, hqm⟩ : ∃ qm : Nat, qm = q - 1 := ⟨_, rfl⟩
          rw [← hqm] at W4 d3 d4
          have HQM := hide hqm
          have D3 := hide d3
          have D4 := hide d4
          have t1 : decide (4294967296 ≤ q) = true := by simp; omega
          have t1' : decide ((4294967296 : Int) ≤ (q : Int)) = true := by simp; omega
          have md : Hid (qm < q) := hide (by omega)
          clear hqm d3 d4 d1 d2 q4 r4
          rcases Nat.lt_or_ge ra 4294967296 with hb4 | hb4
          · have t3 : decide (4294967296 ≤ ra) = false := by simp; omega
            have t3' : decide ((4294967296 : Int) ≤ (ra : Int)) = false := by simp; omega
            go_wp2
            go_round
            case rel => exact ⟨qm, ra, rfl, rfl, D3.out hb4⟩
            case measure => have := md.out; simp [intOf]; omega
          · have t3 : decide (4294967296 ≤ ra) = true := by simp; omega
            have t3' : decide ((4294967296 : Int) ≤ (ra : Int)) = true := by simp; omega
            obtain rfl : qm = Q2 := (D4.out hb4).trans HQ2.out.symm
            clear D3 D4
            go_wp2
            go_ret2
            exact ⟨rfl, rfl⟩
        · have dn := hrel.out.down (by omega) vY.out n2 a2 b2 (.inr (by rw [← HX.out, ← HR'.out, ← HT.out]; exact hc'))
          rw [← HRA.out] at dn
          obtain ⟨d1, d2, d3, d4⟩ := dn
          have W4 : IntKind.u64.wrap ((q : Int) - 1) = ((q - 1 : Nat) : Int) := by rw [IntKind.wrap_u64]; omega
          obtain ⟨qm, hqm⟩ : ∃ qm : Nat, qm = q - 1 := ⟨_, rfl⟩
          rw [← hqm] at W4 d3 d4
          have HQM := hide hqm
          have D3 := hide d3
          have D4 := hide d4
          have t1 : decide (4294967296 ≤ q) = false := by simp; omega
          have t1' : decide ((4294967296 : Int) ≤ (q : Int)) = false := by simp; omega
          have t2 : decide (tt < x) = true := by simp; omega
          have md : Hid (qm < q) := hide (by omega)
          clear hqm d3 d4 d1 d2 q4 r4
          rcases Nat.lt_or_ge ra 4294967296 with hb4 | hb4
          · have t3 : decide (4294967296 ≤ ra) = false := by simp; omega
            have t3' : decide ((4294967296 : Int) ≤ (ra : Int)) = false := by simp; omega
            go_wp2
            go_round
            case rel => exact ⟨qm, ra, rfl, rfl, D3.out hb4⟩
            case measure => have := md.out; simp [intOf]; omega
          · have t3 : decide (4294967296 ≤ ra) = true := by simp; omega
            have t3' : decide ((4294967296 : Int) ≤ (ra : Int)) = true := by simp; omega
            obtain rfl : qm = Q2 := (D4.out hb4).trans HQ2.out.symm
            clear D3 D4
            go_wp2
            go_ret2
            exact ⟨rfl, rfl⟩
        · have dn := hide (hrel.out.done (by omega) (by rw [← HX.out, ← HR'.out, ← HT.out]; omega))
          have t1 : decide (4294967296 ≤ q) = false := by simp; omega
          have t1' : decide ((4294967296 : Int) ≤ (q : Int)) = false := by simp; omega
          have t2 : decide (tt < x) = false := by simp; omega
          obtain rfl : q = Q2 := dn.out.trans HQ2.out.symm
          clear q4 r4
          go_wp2
          go_ret2
          exact ⟨rfl, rfl⟩
end Go.Proofs.YtnhimgabcljahaaGreatDoor
