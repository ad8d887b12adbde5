/- The reference's texts of fractions (sewershedref02): Decimal, Text, digits: what each returns; nothing that was there is turned (printed by gen_rttxr.py). -/
import Derived.Test.YtbmckddjdkjplaaDoorRtTxP
import Derived.Test.YtbmckddjdkjplaaDoorRtRef2
import Derived.Test.YtbmckddjdkjplaaDoorByte
import Derived.Test.YtbmckddjdkjplaaDoorOwnQ
namespace Go.Proofs.YtbmckddjdkjplaaDoor
open Go Go.RowKit

set_option maxRecDepth 100000 in
set_option maxHeartbeats 400000 in
theorem rdec_step (n : Int) (w : World) (h1 : -9223372036854775808 ≤ n) (h2 : n ≤ 9223372036854775807)
    (IH : ∀ m : Int, m.natAbs < n.natAbs → -9223372036854775808 ≤ m → m ≤ 9223372036854775807 → ∀ W, Calls Tryd.prog 61 #[.int .i64 m] W (RetV (strV (Lib.itoa m)) W)) :
    Calls Tryd.prog 61 #[.int .i64 n] w (RetV (strV (Lib.itoa n)) w) := by
  obtain ⟨q, hq⟩ : ∃ q, n.tdiv 10 = q := ⟨_, rfl⟩
  obtain ⟨r, hr⟩ : ∃ r, n.tmod 10 = r := ⟨_, rfl⟩
  have rq : n = q * 10 + r := by have := Int.tmod_add_mul_tdiv n 10; rw [hq, hr] at this; omega
  have rb : r.natAbs < 10 := by rw [← hr, Int.natAbs_tmod]; exact Nat.mod_lt _ (by decide)
  have qa : q.natAbs = n.natAbs / 10 := by rw [← hq, Int.natAbs_tdiv]; rfl
  by_cases big : 10 ≤ n.natAbs
  · by_cases hn : n < 0
    · have E := hide (itoa_last big hq (d := r.natAbs) (by rw [hr]))
      have I := hide (IH q (by omega) (by omega) (by omega))
      have LE := Lib.itoa_length_le q (by omega) (by omega)
      clear IH
      have r0 : r ≤ 0 := by omega
      obtain ⟨d, rfl⟩ : ∃ d : Nat, r = -(d : Int) := ⟨r.natAbs, by omega⟩
      rw [Int.natAbs_neg, Int.natAbs_natCast] at E rb
      have EN := enc_digit d rb
      generalize UInt8.ofNat (48 + d) = B at *
      generalize Lib.itoa q = tq at *
      have d1 : decide (n < 0) = true := decide_eq_true hn
      have d2 : decide (-10 < n) = false := decide_eq_false (by omega)
      have l1 : ¬ 9223372036854775807 < tq.length + 1 := by omega
      have c1 : (⟨tq.toArray⟩ : ByteArray) ++ ⟨#[B]⟩ = ⟨(tq ++ [B]).toArray⟩ := ba_append tq [B]
      have qb1 : -9223372036854775808 ≤ q := by omega
      have qb2 : q ≤ 9223372036854775807 := by omega
      clear qa rq r0 hn big LE
      go_enter Tryd.func61, Tryd.ntmps61
      go_wp2_with fail
      refine (I.out _).mono ?_
      rintro e w1 ⟨rfl, hb⟩
      go_wp2
      go_ret
      exact ⟨by rw [E.out]; rfl, hb⟩
    · have E := hide (itoa_last big hq (d := r.natAbs) (by rw [hr]))
      have I := hide (IH q (by omega) (by omega) (by omega))
      have LE := Lib.itoa_length_le q (by omega) (by omega)
      clear IH
      have r0 : 0 ≤ r := by omega
      obtain ⟨d, rfl⟩ : ∃ d : Nat, r = (d : Int) := ⟨r.natAbs, by omega⟩
      rw [Int.natAbs_natCast] at E rb
      have EN := enc_digit d rb
      generalize UInt8.ofNat (48 + d) = B at *
      generalize Lib.itoa q = tq at *
      have d1 : decide (n < 0) = false := decide_eq_false hn
      have d2 : decide (10 ≤ n) = true := decide_eq_true (by omega)
      have l1 : ¬ 9223372036854775807 < tq.length + 1 := by omega
      have c1 : (⟨tq.toArray⟩ : ByteArray) ++ ⟨#[B]⟩ = ⟨(tq ++ [B]).toArray⟩ := ba_append tq [B]
      have qb1 : -9223372036854775808 ≤ q := by omega
      have qb2 : q ≤ 9223372036854775807 := by omega
      clear qa rq r0 hn big LE
      go_enter Tryd.func61, Tryd.ntmps61
      go_wp2_with fail
      refine (I.out _).mono ?_
      rintro e w1 ⟨rfl, hb⟩
      go_wp2
      go_ret
      exact ⟨by rw [E.out]; rfl, hb⟩
  · by_cases hn : n < 0
    · have E := hide (itoa_first (n := n) (d := r.natAbs) (by omega) rb)
      clear IH
      have r0 : r ≤ 0 := by omega
      obtain ⟨d, rfl⟩ : ∃ d : Nat, r = -(d : Int) := ⟨r.natAbs, by omega⟩
      rw [Int.natAbs_neg, Int.natAbs_natCast] at E rb
      have EN := enc_digit d rb
      rw [if_pos hn] at E
      generalize UInt8.ofNat (48 + d) = B at *
      have d1 : decide (n < 0) = true := decide_eq_true hn
      have d2 : decide (-10 < n) = true := decide_eq_true (by omega)
      have en : n = -(d : Int) := by omega
      have c1 : (⟨#[45]⟩ : ByteArray) ++ ⟨#[B]⟩ = ⟨[45, B].toArray⟩ := ba_append [45] [B]
      have n1 : -10 < n := by omega
      clear qa rq r0 big
      rw [show (48 : Int) + (d : Int) = 48 - n by omega] at EN
      clear hq hr en
      go_enter Tryd.func61, Tryd.ntmps61
      go_wp2
      go_ret
      exact ⟨by rw [E.out]; rfl, Below.refl _ _⟩
    · have E := hide (itoa_first (n := n) (d := r.natAbs) (by omega) rb)
      clear IH
      have r0 : 0 ≤ r := by omega
      obtain ⟨d, rfl⟩ : ∃ d : Nat, r = (d : Int) := ⟨r.natAbs, by omega⟩
      rw [Int.natAbs_natCast] at E rb
      have EN := enc_digit d rb
      rw [if_neg hn] at E
      generalize UInt8.ofNat (48 + d) = B at *
      have d1 : decide (n < 0) = false := decide_eq_false hn
      have d2 : decide (10 ≤ n) = false := decide_eq_false (by omega)
      have c1 : (⟨#[45]⟩ : ByteArray) ++ ⟨#[B]⟩ = ⟨[45, B].toArray⟩ := ba_append [45] [B]
      clear qa rq r0 hn big
      go_enter Tryd.func61, Tryd.ntmps61
      go_wp2
      go_ret
      exact ⟨by rw [E.out]; rfl, Below.refl _ _⟩
theorem rdec_any (n : Int) (w : World) (h1 : -9223372036854775808 ≤ n) (h2 : n ≤ 9223372036854775807) : Calls Tryd.prog 61 #[.int .i64 n] w (RetV (strV (Lib.itoa n)) w) := by
  have key : ∀ (k : Nat) (n : Int), n.natAbs ≤ k → -9223372036854775808 ≤ n → n ≤ 9223372036854775807 → ∀ w, Calls Tryd.prog 61 #[.int .i64 n] w (RetV (strV (Lib.itoa n)) w) := by
    intro k
    induction k with
    | zero => exact fun n hk h1 h2 w => rdec_step n w h1 h2 (fun m hm => absurd hm (by omega))
    | succ k ih => exact fun n hk h1 h2 w => rdec_step n w h1 h2 (fun m hm m1 m2 W => ih m (by omega) m1 m2 W)
  exact key n.natAbs n (Nat.le_refl _) h1 h2 w
set_option maxRecDepth 100000 in
set_option maxHeartbeats 1000000 in
theorem rtext_any (a : Fr) (w : World) (ha : (-9223372036854775808 ≤ a.num ∧ a.num ≤ 9223372036854775807) ∧ -9223372036854775808 ≤ a.den ∧ a.den ≤ 9223372036854775807) : Calls Tryd.prog 42 #[a.val] w (RetV (strV (txF a)) w) := by
  have X := (Own.start w).alloc #[.int .i64 a.num, .int .i64 a.den] 24
  have hr := X.r1
  have I1 := hide (fun W => rdec_any a.num W ha.1.1 ha.1.2)
  have I2 := hide (fun W => rdec_any a.den W ha.2.1 ha.2.2)
  have l1 := Lib.itoa_length_le a.num ha.1.1 ha.1.2
  have l2 := Lib.itoa_length_le a.den ha.2.1 ha.2.2
  have E : Hid (txF a = if a.den = 1 then Lib.itoa a.num else Lib.itoa a.num ++ 47 :: Lib.itoa a.den) := hide rfl
  clear ha
  generalize Lib.itoa a.num = sl at *
  generalize Lib.itoa a.den = sh at *
  have c1 : (⟨sl.toArray⟩ : ByteArray) ++ ⟨#[47]⟩ = ⟨(sl ++ [47]).toArray⟩ := ba_append sl [47]
  have c2 := ba_append (sl ++ [47]) sh
  have l3 : ¬ 9223372036854775807 < sl.length + 1 := by omega
  have l4 : ¬ 9223372036854775807 < sl.length + 1 + sh.length := by omega
  by_cases d1 : a.den = 1
  · have e0 : (a.den == 1) = true := by simpa using d1
    have E2 : Hid (txF a = sl) := hide (by rw [E.out, if_pos d1])
    clear E d1
    go_enter Tryd.func42, Tryd.ntmps42
    go_wp2_with fail
    refine (I1.out _).mono ?_
    rintro e w2 ⟨rfl, hb⟩
    replace X := X.to hb
    clear hb hr
    have hr := X.r1
    go_wp2
    go_ret
    exact ⟨by rw [E2.out]; rfl, X.1⟩
  · have e0 : (a.den == 1) = false := by simpa using d1
    have E2 : Hid (txF a = sl ++ 47 :: sh) := hide (by rw [E.out, if_neg d1])
    clear E d1
    go_enter Tryd.func42, Tryd.ntmps42
    go_wp2_with fail
    refine (I1.out _).mono ?_
    rintro e w2 ⟨rfl, hb⟩
    replace X := X.to hb
    clear hb hr
    have hr := X.r1
    go_wp2_with fail
    refine (I2.out _).mono ?_
    rintro e w3 ⟨rfl, hb⟩
    replace X := X.to hb
    clear hb hr
    have hr := X.r1
    go_wp2
    go_ret
    exact ⟨by rw [E2.out]; rfl, X.1⟩
def dgM (m : Nat) (l : List UInt8) : List UInt8 := (l.take m).takeWhile dgB
theorem dgM_zero (l : List UInt8) : dgM 0 l = [] := by simp [dgM]
theorem dgM_nil (m : Nat) : dgM m [] = [] := by simp [dgM]
theorem dgM_go {m : Nat} {c : UInt8} {r : List UInt8} (h : dgB c = true) : dgM (m + 1) (c :: r) = c :: dgM m r := by simp [dgM, h]
theorem dgM_no {m : Nat} {c : UInt8} {r : List UInt8} (h : dgB c = false) : dgM m (c :: r) = [] := by
  cases m
  · simp [dgM]
  · simp [dgM, h]
theorem dgT_bd (l : List UInt8) : valL 0 (dgT l) < 100000000000 ∧ (dgT l).length ≤ 11 ∧ (dgT l).length ≤ l.length := by
  have h1 : ∀ c ∈ dgT l, isDg c := fun c hc => by
    have := List.all_takeWhile (p := dgB) (l := l.take 11)
    have h2 := List.all_eq_true.1 this c hc
    exact of_decide_eq_true (p := 48 ≤ c.toNat ∧ c.toNat ≤ 57) h2
  have h2 : (dgT l).length ≤ (l.take 11).length := (List.takeWhile_sublist _).length_le
  have h3 : (l.take 11).length ≤ 11 := by simp; omega
  have h4 : (l.take 11).length ≤ l.length := by simp; omega
  have h5 := valL_lt (dgT l) h1 0
  have h6 : 10 ^ (dgT l).length ≤ 10 ^ 11 := Nat.pow_le_pow_right (by decide) (by omega)
  refine ⟨?_, by omega, by omega⟩
  have : (10 : Nat) ^ 11 = 100000000000 := by decide
  omega
def DigPost (l : List UInt8) (i : Nat) (w : World) (e : Ending) (w' : World) : Prop := e = .returned (.tuple #[.int .i64 (valL 0 (dgT (l.drop i)) : Nat), .int .i64 ((i + (dgT (l.drop i)).length : Nat) : Int)]) ∧ Below w.heap.size w w'
theorem DigPost.mk {l P : List UInt8} {i : Nat} {w w' : World} (h : dgT (l.drop i) = P) (hb : Below w.heap.size w w') : DigPost l i w (.returned (.tuple #[.int .i64 (valL 0 P : Nat), .int .i64 ((i + P.length : Nat) : Int)])) w' := by subst h; exact ⟨rfl, hb⟩
set_option maxRecDepth 100000 in
set_option maxHeartbeats 4000000 in
theorem digits_any (s : ByteArray) (i : Nat) (w : World) (hs : s.size ≤ 4294967280) (hi : i ≤ s.size) : Calls Tryd.prog 59 #[.string s, .int .i64 (i : Int)] w (DigPost s.data.toList i w) := by
  go_enter Tryd.func59, Tryd.ntmps59
  go_wp2
  go_loop [6, 7] (fun v6 v7 => ∃ (P : List UInt8) (k N : Nat), i + P.length = k ∧ k ≤ s.size ∧ P.length ≤ 11 ∧ N = valL 0 P ∧ v6 = .int .i64 (N : Int) ∧ v7 = .int .i64 (k : Int) ∧ Hid (dgT (s.data.toList.drop i) = P ++ dgM (11 - P.length) (s.data.toList.drop k)) ∧ Hid (N < 100000000000)) (fun _ v7 => s.size - (intOf v7).toNat)
  case atStart => exact ⟨[], i, 0, rfl, hi, by decide, rfl, rfl, rfl, hide rfl, hide (by decide)⟩
  case round =>
    obtain ⟨P, k, N, hk, hks, hP, hN, rfl, rfl, HI, HP⟩ := hrel
    have FIN : Hid (dgM (11 - P.length) (s.data.toList.drop k) = [] → DigPost s.data.toList i w (.returned (.tuple #[.int .i64 (N : Int), .int .i64 (k : Int)])) w) := hide fun h => by
      have e : dgT (s.data.toList.drop i) = P := by rw [HI.out, h, List.append_nil]
      have := DigPost.mk (w := w) (w' := w) (l := s.data.toList) e (Below.refl _ _)
      rw [← hN, hk] at this
      exact this
    by_cases a1 : k < s.size
    rotate_left
    · have d1 : decide ((k : Int) < (s.size : Int)) = false := decide_eq_false (by omega)
      have E := hide (FIN.out (by rw [List.drop_of_length_le (by simp; omega), dgM_nil]))
      clear FIN HI HP hN
      go_wp2
      go_ret2
      exact E.out
    have d1 : decide ((k : Int) < (s.size : Int)) = true := decide_eq_true (by omega)
    by_cases a2 : k < i + 11
    rotate_left
    · have d2 : decide ((k : Int) < (i : Int) + 11) = false := decide_eq_false (by omega)
      have E := hide (FIN.out (by rw [show 11 - P.length = 0 by omega, dgM_zero]))
      clear FIN HI HP hN
      go_wp2
      go_ret2
      exact E.out
    have d2 : decide ((k : Int) < (i : Int) + 11) = true := decide_eq_true (by omega)
    have DB := hide (drop_byteD s k a1)
    have hc := byteD s[k]
    generalize hci : (s[k].toNat : Int) = c at *
    by_cases c1 : 48 ≤ c
    rotate_left
    · have d3 : decide (48 ≤ c) = false := decide_eq_false c1
      have E := hide (FIN.out (by rw [DB.out, dgM_no (decide_eq_false (by omega))]))
      clear FIN HI HP hN DB
      go_wp2
      go_ret2
      exact E.out
    have d3 : decide (48 ≤ c) = true := decide_eq_true c1
    by_cases c2 : c ≤ 57
    rotate_left
    · have d4 : decide (c ≤ 57) = false := decide_eq_false c2
      have E := hide (FIN.out (by rw [DB.out, dgM_no (decide_eq_false (by omega))]))
      clear FIN HI HP hN DB
      go_wp2
      go_ret2
      exact E.out
    have d4 : decide (c ≤ 57) = true := decide_eq_true c2
    have NB := HP.out
    have n2 : (N : Int) ≤ 100000000000 := by omega
    have NX : Hid (dgT (s.data.toList.drop i) = (P ++ [s[k]]) ++ dgM (11 - (P ++ [s[k]]).length) (s.data.toList.drop (k + 1))) := hide (by
      rw [HI.out, DB.out, show 11 - P.length = (11 - (P ++ [s[k]]).length) + 1 by simp; omega, dgM_go (decide_eq_true (by omega))]; simp)
    obtain ⟨d, rfl⟩ : ∃ d : Nat, c = 48 + (d : Int) := ⟨(c - 48).toNat, by omega⟩
    have hN2 : N * 10 + d = valL 0 (P ++ [s[k]]) := by
      rw [valL_append, ← hN]
      show N * 10 + d = N * 10 + (s[k].toNat - 48)
      omega
    have NB2 : Hid (N * 10 + d < 100000000000) := hide (by
      have B := dgT_bd (s.data.toList.drop i)
      rw [NX.out, valL_append, ← hN2] at B
      have := valL_ge (N * 10 + d) (dgM (11 - (P ++ [s[k]]).length) (s.data.toList.drop (k + 1)))
      omega)
    have PL : (P ++ [s[k]]).length = P.length + 1 := by simp
    have KK : i + (P ++ [s[k]]).length = k + 1 := by omega
    have PP : (P ++ [s[k]]).length ≤ 11 := by omega
    have ten : 10 * (N : Int) + (d : Int) = ((N * 10 + d : Nat) : Int) := by omega
    generalize P ++ [s[k]] = P2 at *
    clear FIN HI HP hN DB NB hP PL
    go_wp2
    go_round
    case rel => exact ⟨P2, k + 1, N * 10 + d, KK, by omega, PP, hN2, by go_num, by go_num, NX, NB2⟩
    case measure => simp [intOf]; omega
end Go.Proofs.YtbmckddjdkjplaaDoor
