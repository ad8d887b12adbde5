/- Durations that a record lasts: the program's lasts and the reference's Lasts and Greatest (layer 19); the reference's Valid (layer 17): what each returns; nothing that was there is turned (printed by gen_rc.py). -/
import Derived.Test.YtjnifgheipmanaaGgFn
import Derived.Deep.QuietTactic
import Derived.BigQuiet
namespace Go.Proofs.Ytjnifgheipmanaa
open Go.RowKit

def lastB (s : Ser) (d : Int) : Bool := decide (0 < d ∧ d % s.st = 0 ∧ d / s.st ≤ s.ds.length)
theorem Own.drewN4 {w W : World} {L : List (Nat × TypeId × Array Value)} (h : Own w W L) (n : Nat) : Own w (W.drewN n) L := ⟨⟨h.1.os, h.1.tape, h.1.output, h.1.size, h.1.block⟩, fun x hx => (h.2 x hx).drewN n⟩
/-- the number of steps of a duration -/
def kkS (s : Ser) (d : Int) : Nat := (d / s.st).toNat
theorem lastB_k {s : Ser} (h1 : 1 ≤ s.st) {d : Int} (h : lastB s d = true) : 1 ≤ kkS s d ∧ kkS s d ≤ s.ds.length ∧ d.tdiv s.st = (kkS s d : Int) := by
  obtain ⟨a, b, c⟩ := of_decide_eq_true h
  have e := Int.mul_ediv_add_emod d s.st
  rw [b, Int.add_zero] at e
  have q : 0 < d / s.st := by
    rcases Int.lt_or_le 0 (d / s.st) with h | h
    · exact h
    · have := Int.mul_nonpos_of_nonneg_of_nonpos (show 0 ≤ s.st by omega) h
      omega
  unfold kkS
  exact ⟨by omega, by omega, (Int.tdiv_eq_ediv_of_nonneg (by omega)).trans (by omega)⟩
set_option maxRecDepth 100000 in
set_option maxHeartbeats 4000000 in
theorem lasts_any (s : Ser) (a : SerA) (d : Int) (w : World) (h1 : 1 ≤ s.st ∧ s.st ≤ 86400) (h2 : s.ds.length ≤ 10000) (hd : -9223372036854775808 ≤ d ∧ d ≤ 9223372036854775807) :
    Calls Try.prog 48 #[s.val a, .int .i64 d] w (BPost (lastB s d) w) := by
  obtain ⟨fr, st, l⟩ := s
  obtain ⟨A, c⟩ := a
  have X := (Own.start w).alloc #[.int .i64 fr, .int .i64 st, .slice A l.length c] 41
  have hr := X.r1
  have h1' : 1 ≤ st ∧ st ≤ 86400 := h1
  have h2' : l.length ≤ 10000 := h2
  have s0 : (st == 0) = false := by simp; omega
  have s00 : ¬ st = 0 := by omega
  show Calls Try.prog 48 #[.agg #[.int .i64 fr, .int .i64 st, .slice A l.length c], .int .i64 d] w _
  rcases Int.lt_or_le 0 d with t | t
  rotate_left
  · have q : decide (0 < d) = false := decide_eq_false (by omega)
    have V := hide (show lastB ⟨fr, st, l⟩ d = false from decide_eq_false (fun h => by omega))
    clear t h1 h2 h1' h2' hd
    go_enter Try.func48, Try.ntmps48
    go_wp2
    go_quiet (fail)
    go_wp2
    go_ret
    exact BPost.mk V.out (X.drewN4 nq).1
  · have q : decide (0 < d) = true := decide_eq_true t
    have m1 : d.tmod st = d % st := Int.tmod_eq_emod_of_nonneg (by omega)
    have m2 : d.tdiv st = d / st := Int.tdiv_eq_ediv_of_nonneg (by omega)
    have b1 : 0 ≤ d % st := Int.emod_nonneg _ (by omega)
    have b2 : d % st < st := Int.emod_lt_of_pos _ (by omega)
    have b3 : 0 ≤ d / st := Int.ediv_nonneg (by omega) (by omega)
    have b4 : d / st ≤ d := Int.ediv_le_self _ (by omega)
    obtain ⟨r, hr0⟩ : ∃ r, r = d % st := ⟨_, rfl⟩
    obtain ⟨k, hk0⟩ : ∃ k, k = d / st := ⟨_, rfl⟩
    have m3 : d.tmod st = r := m1.trans hr0.symm
    have m4 : d.tdiv st = k := m2.trans hk0.symm
    have w5 : IntKind.i64.wrap k = k := IntWalk.i64_in _ (by omega)
    have w1 : IntKind.i64.wrap (d.tmod st) = r := by rw [m1, hr0]; exact IntWalk.i64_in _ (by omega)
    have w2 : IntKind.i64.wrap (d.tdiv st) = k := by rw [m2, hk0]; exact IntWalk.i64_in _ (by omega)
    have w3 : wrap64 (d.tmod st) = r := by rw [m1, hr0]; exact IntWalk.wrap64_in _ (by omega)
    have w4 : wrap64 (d.tdiv st) = k := by rw [m2, hk0]; exact IntWalk.wrap64_in _ (by omega)
    by_cases u : r = 0
    · by_cases v : k ≤ (l.length : Int)
      · have q2 : (r == 0) = true := by simpa using u
        have q3 : decide (k ≤ (l.length : Int)) = true := decide_eq_true v
        have V := hide (show lastB ⟨fr, st, l⟩ d = true from decide_eq_true ⟨t, hr0.symm.trans u, by rw [← hk0]; exact v⟩)
        clear t m1 m2 b1 b2 b3 b4 u v hr0 hk0 h1 h2 h1' h2' hd
        go_enter Try.func48, Try.ntmps48
        go_wp2
        go_quiet (fail)
        go_wp2
        go_ret
        exact BPost.mk V.out (X.drewN4 nq).1
      · have q2 : (r == 0) = true := by simpa using u
        have q3 : decide (k ≤ (l.length : Int)) = false := decide_eq_false v
        have V := hide (show lastB ⟨fr, st, l⟩ d = false from decide_eq_false (fun h => v (by rw [hk0]; exact h.2.2)))
        clear t m1 m2 b1 b2 b3 b4 u v hr0 hk0 h1 h2 h1' h2' hd
        go_enter Try.func48, Try.ntmps48
        go_wp2
        go_quiet (fail)
        go_wp2
        go_ret
        exact BPost.mk V.out (X.drewN4 nq).1
    · have q2 : (r == 0) = false := by simpa using u
      have V := hide (show lastB ⟨fr, st, l⟩ d = false from decide_eq_false (fun h => u (hr0.trans h.2.1)))
      clear t m1 m2 b1 b2 b3 b4 u hr0 hk0 h1 h2 h1' h2' hd
      go_enter Try.func48, Try.ntmps48
      go_wp2
      go_quiet (fail)
      go_wp2
      go_ret
      exact BPost.mk V.out (X.drewN4 nq).1
set_option maxRecDepth 100000 in
set_option maxHeartbeats 4000000 in
theorem rlasts_any (s : Ser) (a : SerA) (d : Int) (w : World) (h1 : 1 ≤ s.st ∧ s.st ≤ 86400) (h2 : s.ds.length ≤ 10000) (hd : -9223372036854775808 ≤ d ∧ d ≤ 9223372036854775807) :
    Calls Try.prog 52 #[s.val a, .int .i64 d] w (BPost (lastB s d) w) := by
  obtain ⟨fr, st, l⟩ := s
  obtain ⟨A, c⟩ := a
  have X := (Own.start w).alloc #[.int .i64 fr, .int .i64 st, .slice A l.length c] 41
  have hr := X.r1
  have h1' : 1 ≤ st ∧ st ≤ 86400 := h1
  have h2' : l.length ≤ 10000 := h2
  have s0 : (st == 0) = false := by simp; omega
  have s00 : ¬ st = 0 := by omega
  show Calls Try.prog 52 #[.agg #[.int .i64 fr, .int .i64 st, .slice A l.length c], .int .i64 d] w _
  rcases Int.lt_or_le 0 d with t | t
  rotate_left
  · have q : decide (0 < d) = false := decide_eq_false (by omega)
    have V := hide (show lastB ⟨fr, st, l⟩ d = false from decide_eq_false (fun h => by omega))
    clear t h1 h2 h1' h2' hd
    go_enter Try.func52, Try.ntmps52
    go_wp2
    go_quiet (fail)
    go_wp2
    go_ret
    exact BPost.mk V.out (X.drewN4 nq).1
  · have q : decide (0 < d) = true := decide_eq_true t
    have m1 : d.tmod st = d % st := Int.tmod_eq_emod_of_nonneg (by omega)
    have m2 : d.tdiv st = d / st := Int.tdiv_eq_ediv_of_nonneg (by omega)
    have b1 : 0 ≤ d % st := Int.emod_nonneg _ (by omega)
    have b2 : d % st < st := Int.emod_lt_of_pos _ (by omega)
    have b3 : 0 ≤ d / st := Int.ediv_nonneg (by omega) (by omega)
    have b4 : d / st ≤ d := Int.ediv_le_self _ (by omega)
    obtain ⟨r, hr0⟩ : ∃ r, r = d % st := ⟨_, rfl⟩
    obtain ⟨k, hk0⟩ : ∃ k, k = d / st := ⟨_, rfl⟩
    have m3 : d.tmod st = r := m1.trans hr0.symm
    have m4 : d.tdiv st = k := m2.trans hk0.symm
    have w5 : IntKind.i64.wrap k = k := IntWalk.i64_in _ (by omega)
    have w1 : IntKind.i64.wrap (d.tmod st) = r := by rw [m1, hr0]; exact IntWalk.i64_in _ (by omega)
    have w2 : IntKind.i64.wrap (d.tdiv st) = k := by rw [m2, hk0]; exact IntWalk.i64_in _ (by omega)
    have w3 : wrap64 (d.tmod st) = r := by rw [m1, hr0]; exact IntWalk.wrap64_in _ (by omega)
    have w4 : wrap64 (d.tdiv st) = k := by rw [m2, hk0]; exact IntWalk.wrap64_in _ (by omega)
    by_cases u : r = 0
    · by_cases v : k ≤ (l.length : Int)
      · have q2 : (r == 0) = true := by simpa using u
        have q3 : decide (k ≤ (l.length : Int)) = true := decide_eq_true v
        have V := hide (show lastB ⟨fr, st, l⟩ d = true from decide_eq_true ⟨t, hr0.symm.trans u, by rw [← hk0]; exact v⟩)
        clear t m1 m2 b1 b2 b3 b4 u v hr0 hk0 h1 h2 h1' h2' hd
        go_enter Try.func52, Try.ntmps52
        go_wp2
        go_quiet (fail)
        go_wp2
        go_ret
        exact BPost.mk V.out (X.drewN4 nq).1
      · have q2 : (r == 0) = true := by simpa using u
        have q3 : decide (k ≤ (l.length : Int)) = false := decide_eq_false v
        have V := hide (show lastB ⟨fr, st, l⟩ d = false from decide_eq_false (fun h => v (by rw [hk0]; exact h.2.2)))
        clear t m1 m2 b1 b2 b3 b4 u v hr0 hk0 h1 h2 h1' h2' hd
        go_enter Try.func52, Try.ntmps52
        go_wp2
        go_quiet (fail)
        go_wp2
        go_ret
        exact BPost.mk V.out (X.drewN4 nq).1
    · have q2 : (r == 0) = false := by simpa using u
      have V := hide (show lastB ⟨fr, st, l⟩ d = false from decide_eq_false (fun h => u (hr0.trans h.2.1)))
      clear t m1 m2 b1 b2 b3 b4 u hr0 hk0 h1 h2 h1' h2' hd
      go_enter Try.func52, Try.ntmps52
      go_wp2
      go_quiet (fail)
      go_wp2
      go_ret
      exact BPost.mk V.out (X.drewN4 nq).1
end Go.Proofs.Ytjnifgheipmanaa
