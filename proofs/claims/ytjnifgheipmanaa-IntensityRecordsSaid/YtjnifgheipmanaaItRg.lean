/- The reference's Within, place and row. -/
import Derived.Test.YtjnifgheipmanaaItVal
namespace Go.Proofs.Ytjnifgheipmanaa
open Go.RowKit

theorem belowN {B : Nat} {a w : World} (h : Below B a w) (n : Nat) : Below B a (w.drewN n) := ⟨h.os, h.tape, h.output, h.size, h.block⟩
set_option maxHeartbeats 1000000 in
theorem rfwithin_any (l : List Int) (A : Option Addr) (cap : Nat) (x : Int) (w : World) (hl : IntSl w A l) (h1 : 1 ≤ l.length) :
    Calls Try.prog 15 #[.slice A l.length cap, .int .i64 x] w fun e w' => e = .returned (.bool (inL l x)) ∧ w = w' := by
  have hlen : l.length ≤ 9223372036854775807 := hl.1.1
  obtain ⟨b, off, rfl, hbl, hat⟩ := hl.at_ (by omega)
  have c0 := hat 0 (by omega)
  have c1 := hat (l.length - 1) (by omega)
  rw [Nat.add_zero] at c0
  clear hat
  have HV := hide (show inL l x = decide (l.getD 0 0 ≤ x ∧ x ≤ l.getD (l.length - 1) 0) from rfl)
  generalize l.getD 0 0 = p at *
  generalize l.getD (l.length - 1) 0 = q at *
  have k0 : IntKind.i64.wrap ((l.length : Int) - 1) = ((l.length - 1 : Nat) : Int) := (IntWalk.i64_in ((l.length : Int) - 1) (by omega)).trans (by omega)
  have k1 : ((l.length - 1 : Nat) : Int) < (l.length : Int) := by omega
  have k2 : (0 : Int) < (l.length : Int) := by omega
  generalize l.length - 1 = m at *
  have t : x < p ∨ (p ≤ x ∧ q < x) ∨ (p ≤ x ∧ x ≤ q) := by omega
  rcases t with t | ⟨t1, t2⟩ | ⟨t1, t2⟩
  all_goals
    go_enter Try.func15, Try.ntmps15
    go_wp2
    go_ret
    exact ⟨ret_bool (by rw [HV.out]; simp; omega), rfl⟩
set_option maxHeartbeats 1000000 in
theorem rfplace_any (l : List Int) (A : Option Addr) (cap : Nat) (x : Int) (w : World) (hl : IntSl w A l) (ha : Asc l) (h2 : 2 ≤ l.length) (hn : l.length ≤ 1000) (hx : inL l x = true) :
    Calls Try.prog 60 #[.slice A l.length cap, .int .i64 x] w fun e w' => e = .returned (.int .i64 (rpl l x : Nat)) ∧ w = w' := by
  obtain ⟨b, off, rfl, hbl, hat⟩ := hl.at_ (by omega)
  have HA := hide hat
  have c0 : 0 < cnt l x := (cnt_iff ha (by omega)).1 (inL_iff.1 hx).1
  have ST := hide (fun i => @rpl_stop l ha x i h2)
  have GO := hide (fun i (hi : i + 1 < l.length) => (cnt_iff ha (x := x) hi).1)
  clear hat hl ha hx
  replace c0 := hide c0
  go_enter Try.func60, Try.ntmps60
  go_wp2
  go_loop [5] (fun v => ∃ k : Nat, k ≤ l.length - 2 ∧ v = .int .i64 k ∧ Hid (k < cnt l x)) (fun v => l.length - (intOf v).toNat)
  case atStart => exact ⟨0, by omega, rfl, c0⟩
  case round =>
    obtain ⟨k, hk, rfl, hc⟩ := hrel
    by_cases h : k + 2 < l.length
    · have q := HA.out (k + 1) (by omega)
      have S := hide (ST.out k hk hc.out)
      have G := hide (GO.out k (by omega))
      generalize l.getD (k + 1) 0 = y at *
      by_cases t : y ≤ x
      · go_wp2
        go_round
        case rel => exact ⟨k + 1, by omega, by go_num, hide (G.out t)⟩
        case measure => simp [intOf]; omega
      · go_wp2
        go_ret
        exact ⟨by rw [← S.out (by omega)]; rfl, rfl⟩
    · have S := hide (ST.out k hk hc.out)
      go_wp2
      go_ret
      exact ⟨by rw [← S.out (by omega)]; rfl, rfl⟩
set_option maxRecDepth 100000 in
set_option maxHeartbeats 4000000 in
theorem rfrow_any (ds l : List Int) (A B : Option Addr) (cap cap' : Nat) (x : Int) (w : World) (hd : IntSl w A ds) (hl : IntSl w B l) (ha : Asc ds) (h1 : 1 ≤ ds.length) (hn : ds.length ≤ 1000) (he : l.length = ds.length) (hx : inL ds x = true)
    (hM : ∀ i, i < ds.length → 1 ≤ ds.getD i 0 ∧ ds.getD i 0 ≤ 2592000) (hL : ∀ i, i < l.length → 0 ≤ l.getD i 0 ∧ l.getD i 0 ≤ 4194304) :
    Calls Try.prog 59 #[.slice A ds.length cap, .slice B l.length cap', .int .i64 x] w fun e w' => e = .returned (.tuple #[.int .i64 (rfN ds (fun i => l.getD i 0) x), .int .i64 (rfD ds x)]) ∧ ∃ d, w' = w.drewN d := by
  by_cases h : ds.length = 1
  · have V1 := hide (show rfN ds (fun i => l.getD i 0) x = l.getD 0 0 by unfold rfN; rw [if_pos h])
    have V2 := hide (show rfD ds x = 1 by unfold rfD; rw [if_pos h])
    have e1 : l.length = 1 := by omega
    obtain ⟨b, off, rfl, hbl, hat⟩ := hl.at_ (by omega)
    have c0 := hat 0 (by omega)
    rw [Nat.add_zero] at c0
    rw [e1]
    clear hat hd hl ha hM hL he h e1
    generalize l.getD 0 0 = p at *
    go_enter Try.func59, Try.ntmps59
    go_wp2
    go_ret2
    exact ⟨by rw [V1.out, V2.out]; rfl, 0, by simp [World.drewN_zero]⟩
  · have V1 := hide (show rfN ds (fun i => l.getD i 0) x = (ds.getD (rpl ds x + 1) 0 - x) * l.getD (rpl ds x) 0 + (x - ds.getD (rpl ds x) 0) * l.getD (rpl ds x + 1) 0 by unfold rfN; rw [if_neg h])
    have V2 := hide (show rfD ds x = ds.getD (rpl ds x + 1) 0 - ds.getD (rpl ds x) 0 by unfold rfD; rw [if_neg h])
    obtain ⟨r1, r2, r3⟩ := rf_parts ha h1 hx h
    have PL := hide (fun w hd => rfplace_any ds A cap x w hd ha (by omega) hn hx)
    obtain ⟨b1, o1, rfl, hb1, hat1⟩ := hd.at_ (by omega)
    obtain ⟨b2, o2, rfl, hb2, hat2⟩ := hl.at_ (by omega)
    have HD := hide hd
    clear hd hl ha hx
    generalize rpl ds x = i at *
    have c0 := hat1 i (by omega)
    have c1 := hat1 (i + 1) (by omega)
    have d0 := hat2 i (by omega)
    have d1 := hat2 (i + 1) (by omega)
    have m0 := hM i (by omega)
    have m1 := hM (i + 1) (by omega)
    have n0 := hL i (by omega)
    have n1 := hL (i + 1) (by omega)
    clear hat1 hat2 hM hL
    generalize ds.getD i 0 = p at *
    generalize ds.getD (i + 1) 0 = q at *
    generalize l.getD i 0 = y at *
    generalize l.getD (i + 1) 0 = z at *
    have s1 := IntWalk.i64_in (q - x) (by omega)
    have s2 := IntWalk.i64_in (x - p) (by omega)
    have s3 := IntWalk.i64_in (q - p) (by omega)
    have b1' : 0 ≤ (q - x) * y := Int.mul_nonneg (by omega) n0.1
    have b2' : 0 ≤ (x - p) * z := Int.mul_nonneg (by omega) n1.1
    have b3' : (q - x) * y ≤ 2592000 * 4194304 := Int.mul_le_mul (by omega) n0.2 n0.1 (by omega)
    have b4' : (x - p) * z ≤ 2592000 * 4194304 := Int.mul_le_mul (by omega) n1.2 n1.1 (by omega)
    have s4 := IntWalk.i64_in ((q - x) * y) (by omega)
    have s5 := IntWalk.i64_in ((x - p) * z) (by omega)
    have s6 := IntWalk.i64_in ((q - x) * y + (x - p) * z) (by omega)
    have s7 : IntKind.i64.wrap ((i : Int) + 1) = ((i + 1 : Nat) : Int) := (IntWalk.i64_in ((i : Int) + 1) (by omega)).trans (by omega)
    rw [he]
    have u0 : ((i + 1 : Nat) : Int) < (ds.length : Int) := by omega
    have u1 : (i : Int) < (ds.length : Int) := by omega
    have u2 : (0 : Int) ≤ (i : Int) := by omega
    have u3 : (0 : Int) ≤ ((i + 1 : Nat) : Int) := by omega
    have u4 : ((ds.length : Int) == 1) = false := by simp; omega
    clear b1' b2' b3' b4' m0 m1 n0 n1
    go_enter Try.func59, Try.ntmps59
    go_wp2_with fail
    refine (PL.out _ HD.out).mono ?_
    rintro e w' ⟨rfl, rfl⟩
    go_wp2
    go_quiet (fail)
    go_wp2
    go_ret2
    exact ⟨by rw [V1.out, V2.out]; rfl, nq, rfl⟩
end Go.Proofs.Ytjnifgheipmanaa
