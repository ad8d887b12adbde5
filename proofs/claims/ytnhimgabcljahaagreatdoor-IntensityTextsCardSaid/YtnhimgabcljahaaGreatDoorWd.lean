/- The program's wide integers from 0 on: Product, Floor, Ceil: what each returns where the quotient fits; nothing that was there is turned. -/
import Derived.Test.YtnhimgabcljahaaGreatDoorItPlain
import Derived.Test.YtnhimgabcljahaaGreatDoorOwn2
import Derived.Test.YtnhimgabcljahaaGreatDoorDiv64A
import Derived.Test.YtnhimgabcljahaaGreatDoorShelf
namespace Go.Proofs.YtnhimgabcljahaaGreatDoor
open Go.RowKit

abbrev HW (v : Nat) : Int := ((v / 18446744073709551616 : Nat) : Int)
abbrev LW (v : Nat) : Int := ((v % 18446744073709551616 : Nat) : Int)
abbrev Nv (v : Nat) : Value := .agg #[.int .u64 ((v / 18446744073709551616 : Nat) : Int), .int .u64 ((v % 18446744073709551616 : Nat) : Int), .bool false]
abbrev Wv (v : Nat) : Value := .agg #[.int .i64 ((v / 1152921504606846976 : Nat) : Int), .int .i64 ((v % 1152921504606846976 : Nat) : Int)]
theorem Own.drewN' {w W : World} {L : List (Nat × TypeId × Array Value)} (h : Own w W L) (n : Nat) : Own w (W.drewN n) L := ⟨⟨h.1.os, h.1.tape, h.1.output, h.1.size, h.1.block⟩, fun x hx => (h.2 x hx).drewN n⟩
theorem below_dnW {B : Nat} {a w : World} (h : Below B a w) (n : Nat) : Below B a (w.drewN n) := ⟨h.os, h.tape, h.output, h.size, h.block⟩
set_option maxHeartbeats 400000 in
theorem wdsize_any (n : Nat) (w : World) (h : n ≤ 9223372036854775807) :
    Calls Tryz.prog 76 #[.int .i64 (n : Int)] w fun e w' => e = .returned (.int .u64 (n : Int)) ∧ w = w' := by
  go_enter Tryz.func76, Tryz.ntmps76
  go_wp2
  go_ret
  exact ⟨ret_int rfl, rfl⟩
set_option maxHeartbeats 400000 in
theorem wdsigned_any (h l : Int) (w : World) :
    Calls Tryz.prog 77 #[.int .u64 h, .int .u64 l, .bool false] w fun e w' => e = .returned (.agg #[.int .u64 h, .int .u64 l, .bool false]) ∧ Below w.heap.size w w' := by
  go_enter Tryz.func77, Tryz.ntmps77
  go_wp2
  refine bodyPost_ret (v := .agg #[.int .u64 h, .int .u64 l, .bool false]) (by simp [results, Tryz.results77, go_sem]) rfl ⟨rfl, by go_grown⟩
set_option maxHeartbeats 400000 in
theorem wdtimes_any (a b : Nat) (w : World) (h1 : a ≤ 9223372036854775807) (h2 : b ≤ 9223372036854775807) :
    Calls Tryz.prog 59 #[.int .i64 (a : Int), .int .i64 (b : Int)] w fun e w' => e = .returned (Nv (a * b)) ∧ Below w.heap.size w w' := by
  have X := (Own.start w).alloc #[.int .u64 0, .int .u64 0, .bool false] 101
  have g1 : ¬ (a : Int) < 0 := by omega
  have g2 : ¬ (b : Int) < 0 := by omega
  go_enter Tryz.func59, Tryz.ntmps59
  go_wp2_with fail
  refine (wdsize_any _ _ h1).mono ?_
  rintro e w' ⟨rfl, rfl⟩
  go_wp2_with fail
  refine (wdsize_any _ _ h2).mono ?_
  rintro e w' ⟨rfl, rfl⟩
  go_wp2_with fail
  refine (Tryz.bits_Mul64 _ _ (by omega) (by omega) _).mono ?_
  rintro e w' ⟨rfl, rfl⟩
  go_wp2_with fail
  refine (wdsigned_any _ _ _).mono ?_
  rintro e w1 ⟨rfl, hb1⟩
  replace X := X.to hb1
  clear hb1
  have hr := X.r1
  go_wp2
  refine bodyPost_ret (v := Nv (a * b)) (by simp [results, Tryz.results59, hr, go_sem]) rfl ⟨rfl, ?_⟩
  have HX := X.1
  have hz := HX.size
  go_grown
set_option maxHeartbeats 1000000 in
theorem wdplaced_any (v : Nat) (w : World) (h : v < 1329227995784915872903807060280344576) :
    Calls Tryz.prog 58 #[Nv v] w fun e w' => e = .returned (.tuple #[Wv v, .int .i64 0]) ∧ Below w.heap.size w w' := by
  obtain ⟨hi, hhi⟩ : ∃ hi, hi = v / 18446744073709551616 := ⟨_, rfl⟩
  obtain ⟨lo, hlo⟩ : ∃ lo, lo = v % 18446744073709551616 := ⟨_, rfl⟩
  obtain ⟨a, ha⟩ : ∃ a, a = v / 1152921504606846976 := ⟨_, rfl⟩
  obtain ⟨b, hb⟩ : ∃ b, b = v % 1152921504606846976 := ⟨_, rfl⟩
  have d1 : hi < 72057594037927936 := by omega
  have E1 : IntKind.u64.wrap ((hi : Int) * 16) = ((hi * 16 : Nat) : Int) := by rw [IntKind.wrap_u64]; omega
  have E2 : (lo : Int) / 1152921504606846976 = ((lo / 1152921504606846976 : Nat) : Int) := by omega
  have E3 : bits .or .u64 ((hi * 16 : Nat) : Int) ((lo / 1152921504606846976 : Nat) : Int) = (a : Int) := by
    have e : hi * 16 ||| lo / 1152921504606846976 = a := by
      rw [show hi * 16 = 2 ^ 4 * hi by omega, Nat.two_pow_add_eq_or_of_lt (by omega : lo / 1152921504606846976 < 2 ^ 4) hi |>.symm]
      omega
    exact u64_or_nat e (by omega) (by omega)
  have E4 : IntKind.i64.wrap (a : Int) = (a : Int) := IntWalk.i64_in _ (by omega)
  have E5 : bits .and .u64 (lo : Int) 1152921504606846975 = (b : Int) := by
    have e : lo &&& 1152921504606846975 = lo % 1152921504606846976 := Nat.and_two_pow_sub_one_eq_mod lo 60
    have := bits_and_u64_nat lo 1152921504606846975 (by omega) (by omega)
    rw [e] at this
    have e2 : lo % 1152921504606846976 = b := by omega
    rw [e2] at this
    exact this
  have E6 : IntKind.i64.wrap (b : Int) = (b : Int) := IntWalk.i64_in _ (by omega)
  have g1 : ¬ ((hi : Int) > 72057594037927936) := by omega
  have g2 : ((hi : Int) == 72057594037927936) = false := beq_eq_false_iff_ne.2 (by omega)
  have X := ((Own.start w).alloc #[.int .u64 (hi : Int), .int .u64 (lo : Int), .bool false] 101).alloc #[.int .i64 0, .int .i64 0] 90
  unfold Nv Wv
  rw [← hhi, ← hlo, ← ha, ← hb]
  generalize ((hi * 16 : Nat) : Int) = z1 at *
  generalize ((lo / 1152921504606846976 : Nat) : Int) = z2 at *
  clear hhi hlo ha hb
  go_enter Tryz.func58, Tryz.ntmps58
  go_wp2
  go_quiet (fail)
  go_wp2
  have Y := (X.drewN' nq).1
  refine bodyPost_ret (v := .tuple #[.agg #[.int .i64 (a : Int), .int .i64 (b : Int)], .int .i64 0]) (by simp [results, Tryz.results58, go_sem]) rfl ⟨rfl, ?_⟩
  exact below_set (below_set Y (by omega) _) (by omega) _
set_option maxRecDepth 100000 in
set_option maxHeartbeats 1000000 in
theorem wdvalid_any (v : Nat) (w : World) (h : v < 1329227995784915872903807060280344576) :
    Calls Tryz.prog 78 #[Wv v] w fun e w' => e = .returned (.bool true) ∧ Below w.heap.size w w' := by
  have a1 : v / 1152921504606846976 < 1152921504606846976 := by omega
  have a2 : v % 1152921504606846976 < 1152921504606846976 := by omega
  unfold Wv
  generalize v / 1152921504606846976 = a at *
  generalize v % 1152921504606846976 = b at *
  have b1 : (-1152921504606846976 : Int) ≤ (a : Int) := by omega
  have b2 : (a : Int) < 1152921504606846976 := by omega
  have b3 : (0 : Int) ≤ (b : Int) := by omega
  have b4 : (b : Int) < 1152921504606846976 := by omega
  clear h a1 a2
  go_enter Tryz.func78, Tryz.ntmps78
  go_wp2
  go_ret
  exact ⟨ret_bool rfl, by go_grown⟩
set_option maxHeartbeats 1000000 in
theorem wdvalue_any (v : Nat) (w : World) (h : v < 1329227995784915872903807060280344576) :
    Calls Tryz.prog 80 #[Wv v] w fun e w' => e = .returned (Nv v) ∧ Below w.heap.size w w' := by
  obtain ⟨hi, hhi⟩ : ∃ hi, hi = v / 18446744073709551616 := ⟨_, rfl⟩
  obtain ⟨lo, hlo⟩ : ∃ lo, lo = v % 18446744073709551616 := ⟨_, rfl⟩
  obtain ⟨a, ha⟩ : ∃ a, a = v / 1152921504606846976 := ⟨_, rfl⟩
  obtain ⟨b, hb⟩ : ∃ b, b = v % 1152921504606846976 := ⟨_, rfl⟩
  obtain ⟨c, hc⟩ : ∃ c, c = a * 1152921504606846976 % 18446744073709551616 := ⟨_, rfl⟩
  have a1 : a < 1152921504606846976 := by omega
  have E1 : (a : Int) / 16 = (hi : Int) := by omega
  have E2 : IntKind.u64.wrap ((a : Int) * 1152921504606846976) = (c : Int) := e_mul (y := 1152921504606846976) hc
  have E3 : IntKind.u64.wrap (b : Int) = (b : Int) := u64_nat (by omega)
  have E4 : bits .or .u64 (c : Int) (b : Int) = (lo : Int) := by
    have e : c ||| b = lo := by
      have : c = 2 ^ 60 * (a % 16) := by omega
      rw [this, Nat.two_pow_add_eq_or_of_lt (by omega : b < 2 ^ 60) (a % 16) |>.symm]
      omega
    exact u64_or_nat e (by omega) (by omega)
  have g1 : (0 : Int) ≤ (a : Int) := by omega
  have X := ((Own.start w).alloc #[.int .i64 (a : Int), .int .i64 (b : Int)] 90).alloc #[.int .u64 0, .int .u64 0, .bool false] 101
  unfold Nv Wv
  rw [← hhi, ← hlo, ← ha, ← hb]
  clear hhi hlo ha hb hc h
  go_enter Tryz.func80, Tryz.ntmps80
  go_wp2_with fail
  refine (wdsize_any _ _ (by omega)).mono ?_
  rintro e w' ⟨rfl, rfl⟩
  go_wp2
  refine bodyPost_ret (v := .agg #[.int .u64 (hi : Int), .int .u64 (lo : Int), .bool false]) (by simp [results, Tryz.results80, go_sem]) rfl ⟨rfl, ?_⟩
  go_grown
set_option maxHeartbeats 400000 in
theorem wdwhole_any (n : Nat) (w : World) (h : n ≤ 9223372036854775807) :
    Calls Tryz.prog 94 #[.int .u64 (n : Int), .bool false] w fun e w' => e = .returned (.tuple #[.int .i64 (n : Int), .int .i64 0]) ∧ w = w' := by
  go_enter Tryz.func94, Tryz.ntmps94
  go_wp2
  go_ret2
  exact ⟨rfl, rfl⟩
/-- a quotient, rounded down or up -/
def qud (v c : Nat) (u : Bool) : Nat := v / c + if v % c ≠ 0 ∧ u = true then 1 else 0
theorem qud_down (v c : Nat) : ((qud v c false : Nat) : Int) = (v : Int) / (c : Int) := by simp [qud]
theorem qud_up (v c : Nat) (hc : 0 < c) : ((qud v c true : Nat) : Int) = cdiv (v : Int) (c : Int) := by
  have h : ((qud v c true : Nat) : Int) = if v % c ≠ 0 then (v : Int) / (c : Int) + 1 else (v : Int) / (c : Int) := by unfold qud; split <;> simp_all
  have m := Nat.div_add_mod v c
  have ml := Nat.mod_lt v hc
  generalize hq : v / c = q at *
  generalize v % c = r at *
  have e : (v : Int) = (c : Int) * (q : Int) + (r : Int) := by rw [← m]; simp
  have ed : (v : Int) / (c : Int) = (q : Int) := by rw [← hq]; simp
  rw [h, ed]
  apply Int.le_antisymm
  · split
    · rcases Int.lt_or_le (q : Int) (cdiv v c) with k | k
      · omega
      · have := (cdiv_iff (n := (v : Int)) (d := (c : Int)) (by omega)).1 k
        have e2 : (q : Int) * (c : Int) = (c : Int) * (q : Int) := Int.mul_comm ..
        omega
    · exact ed ▸ (fc_le (n := (v : Int)) (d := (c : Int)) (by omega)).1
  · rw [cdiv_iff (by omega)]
    split
    · have e2 : ((q : Int) + 1) * (c : Int) = (c : Int) * (q : Int) + (c : Int) := by grind
      omega
    · have e2 : (q : Int) * (c : Int) = (c : Int) * (q : Int) := Int.mul_comm ..
      omega
set_option maxHeartbeats 4000000 in
theorem wdquotient_any (v c : Nat) (u : Bool) (w : World) (hc : 0 < c) (hc' : c ≤ 9223372036854775807) (hq : v / c < 4611686018427387904) :
    Calls Tryz.prog 79 #[Nv v, .int .i64 (c : Int), .bool u] w fun e w' => e = .returned (.tuple #[.int .i64 (qud v c u : Nat), .int .i64 0]) ∧ Below w.heap.size w w' := by
  obtain ⟨hi, hhi⟩ : ∃ hi, hi = v / 18446744073709551616 := ⟨_, rfl⟩
  obtain ⟨lo, hlo⟩ : ∃ lo, lo = v % 18446744073709551616 := ⟨_, rfl⟩
  obtain ⟨q, hqq⟩ : ∃ q, q = v / c := ⟨_, rfl⟩
  obtain ⟨r, hr⟩ : ∃ r, r = v % c := ⟨_, rfl⟩
  have d0 : hi < c := by
    have m := Nat.div_add_mod v c
    have ml := Nat.mod_lt v hc
    have : c * (v / c) ≤ c * 4611686018427387903 := Nat.mul_le_mul_left c (by omega)
    omega
  have ev : hi * 18446744073709551616 + lo = v := by omega
  have d1 : ¬ ((hi : Int) ≥ (c : Int)) := by omega
  have X := (Own.start w).alloc #[.int .u64 (hi : Int), .int .u64 (lo : Int), .bool false] 101
  have D := hide (fun W => div64_any hi lo c d0 (by omega) (by omega) W)
  rw [ev, ← hqq, ← hr] at D
  have HQ := hide (show (qud v c u : Nat) = q + (if r ≠ 0 ∧ u = true then 1 else 0) by unfold qud; rw [hqq, hr])
  unfold Nv
  rw [← hhi, ← hlo]
  have q1 : q < 4611686018427387904 := by omega
  have g0 : ¬ (c : Int) < 0 := by omega
  have g3 : IntKind.u64.wrap ((q : Int) + 1) = ((q + 1 : Nat) : Int) := by rw [IntKind.wrap_u64]; omega
  have g4 : (((q + 1 : Nat) : Int) == 0) = false := beq_eq_false_iff_ne.2 (by omega)
  obtain ⟨q2, hq2⟩ : ∃ q2, q2 = q + 1 := ⟨_, rfl⟩
  rw [← hq2] at g3 g4
  have HQ2 := hide hq2
  have q3 : q2 ≤ 4611686018427387904 := by omega
  clear hhi hlo hqq hr ev hq hq2 d0
  by_cases hr0 : r = 0
  · have HR := hide hr0
    have g1 : ¬ ((r : Int) > 0) := by omega
    clear hr0
    go_enter Tryz.func79, Tryz.ntmps79
    go_wp2_with fail
    refine (wdsize_any _ _ hc').mono ?_
    rintro e w' ⟨rfl, rfl⟩
    have hr := X.r1
    go_wp2_with fail
    refine (D.out _).mono ?_
    rintro e w1 ⟨rfl, nn, rfl⟩
    go_wp2_with fail
    refine (wdwhole_any _ _ (by omega)).mono ?_
    rintro e w' ⟨rfl, rfl⟩
    go_wp2
    go_ret2
    exact ⟨by rw [HQ.out, HR.out]; simp, below_dnW X.1 nn⟩
  · have HR := hide hr0
    have g1 : (r : Int) > 0 := by omega
    clear hr0
    cases u
    all_goals
      go_enter Tryz.func79, Tryz.ntmps79
      go_wp2_with fail
      refine (wdsize_any _ _ hc').mono ?_
      rintro e w' ⟨rfl, rfl⟩
      have hr := X.r1
      go_wp2_with fail
      refine (D.out _).mono ?_
      rintro e w1 ⟨rfl, nn, rfl⟩
      go_wp2_with fail
      refine (wdwhole_any _ _ (by omega)).mono ?_
      rintro e w' ⟨rfl, rfl⟩
      go_wp2
      go_ret2
      exact ⟨by rw [HQ.out]; have := HQ2.out; have := HR.out; simp [*], below_dnW X.1 nn⟩
set_option maxHeartbeats 1000000 in
theorem wddivided_any (v c : Nat) (u : Bool) (w : World) (h : v < 1329227995784915872903807060280344576) (hc : 0 < c) (hc' : c ≤ 9223372036854775807) (hq : v / c < 4611686018427387904) :
    Calls Tryz.prog 60 #[Wv v, .int .i64 (c : Int), .bool u] w fun e w' => e = .returned (.tuple #[.int .i64 (qud v c u : Nat), .int .i64 0]) ∧ Below w.heap.size w w' := by
  have g : ((c : Int) == 0) = false := beq_eq_false_iff_ne.2 (by omega)
  have X := (Own.start w).alloc #[.int .i64 ((v / 1152921504606846976 : Nat) : Int), .int .i64 ((v % 1152921504606846976 : Nat) : Int)] 90
  have V := hide (fun W => wdvalid_any v W h)
  have U := hide (fun W => wdvalue_any v W h)
  have Q := hide (fun W => wdquotient_any v c u W hc hc' hq)
  clear h hc hc' hq
  go_enter Tryz.func60, Tryz.ntmps60
  go_wp2_with fail
  refine (V.out _).mono ?_
  rintro e w1 ⟨rfl, hb⟩
  replace X := X.to hb
  clear hb
  have hr := X.r1
  go_wp2_with fail
  refine (U.out _).mono ?_
  rintro e w2 ⟨rfl, hb⟩
  replace X := X.to hb
  clear hb hr
  have hr := X.r1
  go_wp2_with fail
  refine (Q.out _).mono ?_
  rintro e w3 ⟨rfl, hb⟩
  replace X := X.to hb
  clear hb hr
  go_wp2
  go_ret2
  exact ⟨rfl, X.1⟩
set_option maxHeartbeats 1000000 in
theorem wdfloor_any (v c : Nat) (w : World) (h : v < 1329227995784915872903807060280344576) (hc : 0 < c) (hc' : c ≤ 9223372036854775807) (hq : v / c < 4611686018427387904) :
    Calls Tryz.prog 47 #[Wv v, .int .i64 (c : Int)] w fun e w' => e = .returned (.tuple #[.int .i64 (qud v c false : Nat), .int .i64 0]) ∧ Below w.heap.size w w' := by
  have X := (Own.start w).alloc #[.int .i64 ((v / 1152921504606846976 : Nat) : Int), .int .i64 ((v % 1152921504606846976 : Nat) : Int)] 90
  have Q := hide (fun W => wddivided_any v c false W h hc hc' hq)
  clear h hc hc' hq
  go_enter Tryz.func47, Tryz.ntmps47
  go_wp2_with fail
  refine (Q.out _).mono ?_
  rintro e w3 ⟨rfl, hb⟩
  replace X := X.to hb
  clear hb
  go_wp2
  go_ret2
  exact ⟨rfl, X.1⟩
set_option maxHeartbeats 1000000 in
theorem wdceil_any (v c : Nat) (w : World) (h : v < 1329227995784915872903807060280344576) (hc : 0 < c) (hc' : c ≤ 9223372036854775807) (hq : v / c < 4611686018427387904) :
    Calls Tryz.prog 48 #[Wv v, .int .i64 (c : Int)] w fun e w' => e = .returned (.tuple #[.int .i64 (qud v c true : Nat), .int .i64 0]) ∧ Below w.heap.size w w' := by
  have X := (Own.start w).alloc #[.int .i64 ((v / 1152921504606846976 : Nat) : Int), .int .i64 ((v % 1152921504606846976 : Nat) : Int)] 90
  have Q := hide (fun W => wddivided_any v c true W h hc hc' hq)
  clear h hc hc' hq
  go_enter Tryz.func48, Tryz.ntmps48
  go_wp2_with fail
  refine (Q.out _).mono ?_
  rintro e w3 ⟨rfl, hb⟩
  replace X := X.to hb
  clear hb
  go_wp2
  go_ret2
  exact ⟨rfl, X.1⟩
set_option maxHeartbeats 1000000 in
theorem wdproduct_any (a b : Nat) (w : World) (h1 : a ≤ 9223372036854775807) (h2 : b ≤ 9223372036854775807) (h : a * b < 1329227995784915872903807060280344576) :
    Calls Tryz.prog 46 #[.int .i64 (a : Int), .int .i64 (b : Int)] w fun e w' => e = .returned (.tuple #[Wv (a * b), .int .i64 0]) ∧ Below w.heap.size w w' := by
  have X := (Own.start w).alloc #[.int .i64 0, .int .i64 0] 90
  have T := hide (fun W => wdtimes_any a b W h1 h2)
  have P := hide (fun W => wdplaced_any (a * b) W h)
  clear h1 h2 h
  go_enter Tryz.func46, Tryz.ntmps46
  go_wp2_with fail
  refine (T.out _).mono ?_
  rintro e w1 ⟨rfl, hb⟩
  replace X := X.to hb
  clear hb
  have hr := X.r1
  go_wp2_with fail
  refine (P.out _).mono ?_
  rintro e w2 ⟨rfl, hb⟩
  replace X := X.to hb
  clear hb hr
  have hr := X.r1
  go_wp2
  refine bodyPost_ret (v := .tuple #[Wv (a * b), .int .i64 0]) (by simp [results, Tryz.results46, hr, go_sem]) rfl ⟨rfl, ?_⟩
  exact below_set (below_set X.1 (by omega) _) (by omega) _
end Go.Proofs.YtnhimgabcljahaaGreatDoor
