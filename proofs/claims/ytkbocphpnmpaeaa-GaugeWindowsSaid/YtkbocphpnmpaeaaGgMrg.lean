/- The program's at and end of records: what each returns; nothing that was there is turned. -/
import Derived.Test.YtkbocphpnmpaeaaGgMgP
import Derived.Test.YtkbocphpnmpaeaaGgGat
import Derived.Test.YtkbocphpnmpaeaaOwnQ
namespace Go.Proofs.Ytkbocphpnmpaeaa
open Go.RowKit

def NPost (v : Int) (w : World) (e : Ending) (w' : World) : Prop := e = .returned (.int .i64 v) ∧ Below w.heap.size w w'
theorem NPost.mk {v v' : Int} {w w' : World} (h : v = v') (hb : Below w.heap.size w w') : NPost v w (.returned (.int .i64 v')) w' := by subst h; exact ⟨rfl, hb⟩
set_option maxHeartbeats 1000000 in
theorem gend_any (s : Ser) (a : SerA) (w : World) (v : VS s) : Calls Try.prog 46 #[s.val a] w (NPost (enS s) w) := by
  obtain ⟨fr, st, l⟩ := s
  have v1 : 1 ≤ st ∧ st ≤ 86400 := v.st
  have vf : -68719476736 ≤ fr ∧ fr ≤ 68719476736 := v.fr
  have ve : -68719476736 ≤ fr + st * (l.length : Int) ∧ fr + st * (l.length : Int) ≤ 68719476736 := v.en
  have X := (Own.start w).alloc #[.int .i64 fr, .int .i64 st, .slice a.A l.length a.c] 24
  have hr := X.r1
  obtain ⟨p, hp⟩ : ∃ p, p = st * (l.length : Int) := ⟨_, rfl⟩
  obtain ⟨q, hq⟩ : ∃ q, q = fr + p := ⟨_, rfl⟩
  have s1 : IntKind.i64.wrap (st * (l.length : Int)) = p := (IntWalk.i64_in _ (by omega)).trans hp.symm
  have s2 : IntKind.i64.wrap (fr + p) = q := (IntWalk.i64_in _ (by omega)).trans hq.symm
  have E := hide (show enS ⟨fr, st, l⟩ = q by rw [hq, hp]; rfl)
  show Calls Try.prog 46 #[.agg #[.int .i64 fr, .int .i64 st, .slice a.A l.length a.c]] w _
  clear v v1 vf ve hp hq
  go_enter Try.func46, Try.ntmps46
  go_wp2
  go_ret
  exact NPost.mk E.out X.1
set_option maxRecDepth 100000 in
set_option maxHeartbeats 2000000 in
theorem gat_any (s : Ser) (a : SerA) (t : Int) (w : World) (hs : SerSl w s a) (v : VS s) (ht : -68719476736 ≤ t ∧ t ≤ 68719476736) : Calls Try.prog 47 #[s.val a, .int .i64 t] w (NPost (atS s t) w) := by
  obtain ⟨fr, st, l⟩ := s
  obtain ⟨A, c⟩ := a
  have v1 : 1 ≤ st ∧ st ≤ 86400 := v.st
  have vf : -68719476736 ≤ fr ∧ fr ≤ 68719476736 := v.fr
  have X := (Own.start w).alloc #[.int .i64 fr, .int .i64 st, .slice A l.length c] 24
  have hr := X.r1
  have HS := hide hs
  have s1 := IntWalk.i64_in (t - fr) (by omega)
  have q5 : (st == 0) = false := beq_eq_false_iff_ne.2 (by omega)
  have q6 : ¬ st = 0 := by omega
  have tb : -137438953472 ≤ (t - fr).tdiv st ∧ (t - fr).tdiv st ≤ 137438953472 := by
    have hs0 : 0 < st := by omega
    rcases Int.lt_or_le (t - fr) 0 with h | h
    · have e : (t - fr).tdiv st = -((-(t - fr)) / st) := by
        rw [show t - fr = -(-(t - fr)) by omega, Int.neg_tdiv, Int.tdiv_eq_ediv_of_nonneg (by omega)]
        simp
      have p1 := Int.ediv_nonneg (show 0 ≤ -(t - fr) by omega) (show 0 ≤ st by omega)
      have p2 := Int.ediv_le_self st (show 0 ≤ -(t - fr) by omega)
      omega
    · rw [Int.tdiv_eq_ediv_of_nonneg h]
      have p1 := Int.ediv_nonneg h (show 0 ≤ st by omega)
      have p2 := Int.ediv_le_self st h
      omega
  have w1 : IntKind.i64.wrap ((t - fr).tdiv st) = (t - fr).tdiv st := IntWalk.i64_in _ (by omega)
  have n0 : (0 : Int) ≤ (l.length : Int) := by omega
  show Calls Try.prog 47 #[.agg #[.int .i64 fr, .int .i64 st, .slice A l.length c], .int .i64 t] w _
  clear hs
  rcases Int.lt_or_le t fr with h | h
  · have E := hide (show atS ⟨fr, st, l⟩ t = -1 by unfold atS; exact if_neg (fun x => by have : fr ≤ t := x.1; omega))
    have g1 : decide (fr ≤ t) = false := decide_eq_false (by omega)
    clear v v1 vf tb
    generalize (t - fr).tdiv st = K at *
    generalize t - fr = D at *
    go_enter Try.func47, Try.ntmps47
    go_wp2
    go_ret
    exact NPost.mk E.out X.1
  · have e : (t - fr).tdiv st = (t - fr) / st := Int.tdiv_eq_ediv_of_nonneg (by omega)
    have p1 := Int.ediv_nonneg (show 0 ≤ t - fr by omega) (show 0 ≤ st by omega)
    have g1 : decide (fr ≤ t) = true := decide_eq_true h
    obtain ⟨k, ek⟩ : ∃ k : Nat, (t - fr) / st = (k : Int) := ⟨((t - fr) / st).toNat, by omega⟩
    rw [ek] at e
    rw [e] at w1
    by_cases hk : k < l.length
    · have E := hide (show atS ⟨fr, st, l⟩ t = l.getD k 0 by
        unfold atS
        rw [if_pos ⟨h, by show (t - fr) / st < (l.length : Int); omega⟩]
        show l.getD ((t - fr) / st).toNat 0 = _
        rw [ek]; rfl)
      obtain ⟨b, off, rfl, hbl, hat⟩ := (HS.out.below X.1).1.atg (show 0 < l.length by omega)
      have c0 := hat k hk
      have g2 : decide ((k : Int) < (l.length : Int)) = true := decide_eq_true (by omega)
      have g3 : (0 : Int) ≤ (k : Int) := by omega
      have g4 : (k : Int) < (l.length : Int) := by omega
      have g5 : decide (k < l.length) = true := decide_eq_true hk
      clear v v1 vf tb hat ek p1
      generalize l.getD k 0 = d at *
      go_enter Try.func47, Try.ntmps47
      go_wp2
      go_ret
      exact NPost.mk E.out X.1
    · have E := hide (show atS ⟨fr, st, l⟩ t = -1 by unfold atS; exact if_neg (fun x => by have : (t - fr) / st < (l.length : Int) := x.2; omega))
      have g2 : decide ((k : Int) < (l.length : Int)) = false := decide_eq_false (by omega)
      have g5 : decide (k < l.length) = false := decide_eq_false hk
      clear v v1 vf tb ek p1
      go_enter Try.func47, Try.ntmps47
      go_wp2
      go_ret
      exact NPost.mk E.out X.1
end Go.Proofs.Ytkbocphpnmpaeaa
