/- slices.Equal at integers: whether two lists are equal; nothing that was there is turned. -/
import Derived.Test.YtaaadejamjbcbaaDoorOwn2
import Derived.Deep.QuietTactic
import Derived.BigQuiet
namespace Go.Proofs.YtaaadejamjbcbaaDoor
open Go.RowKit

theorem below_drewN {B : Nat} {a w : World} (h : Below B a w) (n : Nat) : Below B a (w.drewN n) := ⟨h.os, h.tape, h.output, h.size, h.block⟩
/-- two lists of integers are equal -/
def eqB (l m : List Int) : Bool := decide (l = m)
set_option maxHeartbeats 1000000 in
theorem equalI_any (l m : List Int) (A B : Option Addr) (cap cap' : Nat) (w : World) (hl : IntSl w A l) (hm : IntSl w B m) :
    Calls Tryd.prog 11 #[.slice A l.length cap, .slice B m.length cap'] w fun e w' => e = .returned (.bool (eqB l m)) ∧ Below w.heap.size w w' := by
  have hlen : l.length ≤ 9223372036854775807 := by have := hl.1.1; omega
  have hlen' : m.length ≤ 9223372036854775807 := by have := hm.1.1; omega
  have H := hide hl
  have H' := hide hm
  clear hl hm
  by_cases hn : l.length = m.length
  case neg =>
    have q : ((l.length : Int) == (m.length : Int)) = false := by simp; omega
    have q' : ((l.length : Int) != (m.length : Int)) = true := by simp; omega
    have hv : eqB l m = false := by simp only [eqB, decide_eq_false_iff_not]; intro e; exact hn (by rw [e])
    have HV := hide hv
    clear hn hv
    go_enter Tryd.func11, Tryd.ntmps11
    go_wp2
    go_ret
    exact ⟨ret_bool HV.out.symm, Below.refl _ _⟩
  have q : ((l.length : Int) == (m.length : Int)) = true := by simp; omega
  have q' : ((l.length : Int) != (m.length : Int)) = false := by simp; omega
  have HN := hide hn
  clear hn
  go_enter Tryd.func11, Tryd.ntmps11
  go_wp2
  go_loopw [13] (fun v wr => ∃ k : Nat, k ≤ l.length ∧ v = .int .i64 k ∧ Below w.heap.size w wr ∧ Hid (∀ i (h : i < l.length) (h' : i < m.length), i < k → l[i] = m[i])) (fun v _ => l.length - (intOf v).toNat)
  case atStart => exact ⟨0, Nat.zero_le _, rfl, Below.refl _ _, hide (fun _ _ _ h => by omega)⟩
  case round =>
    obtain ⟨k, hk, rfl, hb, hno⟩ := hrel
    by_cases hlt : k < l.length
    · have hlt' : k < m.length := by rw [← HN.out]; exact hlt
      obtain ⟨b, off, rfl, hbl, hat⟩ := (H.out.below hb).2 (by omega)
      obtain ⟨b', off', rfl, hbl', hat'⟩ := (H'.out.below hb).2 (by omega)
      have c0 := hat k hlt
      have c1 := hat' k hlt'
      have g0 : (0 : Int) ≤ (k : Int) := by omega
      have g1 : (k : Int) < (l.length : Int) := by omega
      have g2 : (k : Int) < (m.length : Int) := by omega
      clear hat hat' q q'
      have HB := hide hb
      clear hb
      by_cases e : l[k] = m[k]
      · have e1 : (l[k] == m[k]) = true := by simpa using e
        have e2 : (l[k] != m[k]) = false := by simpa using e
        have E := hide e
        clear e
        go_wp2
        go_quiet (fail)
        go_wp2
        go_roundw
        case rel =>
          refine ⟨k + 1, by omega, by go_num, below_drewN HB.out _, hide fun i h h' hik => ?_⟩
          by_cases e : i = k
          · subst e; exact E.out
          · exact hno.out i h h' (by omega)
        case measure => simp [intOf]; omega
      · have e1 : (l[k] == m[k]) = false := by simpa using e
        have e2 : (l[k] != m[k]) = true := by simpa using e
        have hv : eqB l m = false := by simp only [eqB, decide_eq_false_iff_not]; intro h; exact e (by simp only [h])
        have HV := hide hv
        clear e hv
        go_wp2
        go_quiet (fail)
        go_wp2
        go_ret
        exact ⟨ret_bool HV.out.symm, below_drewN HB.out _⟩
    · have hv : eqB l m = true := by
        simp only [eqB, decide_eq_true_eq]
        exact List.ext_getElem HN.out (fun i h h' => hno.out i h h' (by omega))
      have HV := hide hv
      have HB := hide hb
      clear hv hb q q'
      go_wp2
      go_ret
      exact ⟨ret_bool HV.out.symm, HB.out⟩
end Go.Proofs.YtaaadejamjbcbaaDoor
