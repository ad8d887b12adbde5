/- slices.Equal at spans: whether two lists are equal; it draws at most. -/
import Derived.Test.YtkbocphpnmpaeaaGgGap
import Derived.Deep.QuietTactic
import Derived.BigQuiet
namespace Go.Proofs.Ytkbocphpnmpaeaa
open Go.RowKit

set_option maxRecDepth 100000 in
set_option maxHeartbeats 1000000 in
theorem equalP_any (l m : List (Int × Int)) (A B : Option Addr) (cap cap' : Nat) (w : World) (hl : PairSl w A l) (hm : PairSl w B m) (r : Bool) (hr : (r = true ↔ l = m)) :
    Calls Try.prog 24 #[.slice A l.length cap, .slice B m.length cap'] w fun e w' => e = .returned (.bool r) ∧ ∃ d, w' = w.drewN d := by
  have hlen : l.length ≤ 9223372036854775807 := by have := hl.1; unfold maxLen at this; omega
  have hlen' : m.length ≤ 9223372036854775807 := by have := hm.1; unfold maxLen at this; omega
  have H := hide hl
  have H' := hide hm
  have HR := hide hr
  clear hl hm hr
  by_cases hn : l.length = m.length
  case neg =>
    have q : ((l.length : Int) == (m.length : Int)) = false := by simp; omega
    have q' : ((l.length : Int) != (m.length : Int)) = true := by simp; omega
    have hv : r = false := by
      cases r
      · rfl
      · exact absurd (by rw [HR.out.1 rfl]) hn
    subst hv
    clear hn
    go_enter Try.func24, Try.ntmps24
    go_wp2
    go_ret
    exact ⟨rfl, 0, by simp [World.drewN_zero]⟩
  have q : ((l.length : Int) == (m.length : Int)) = true := by simp; omega
  have q' : ((l.length : Int) != (m.length : Int)) = false := by simp; omega
  have HN := hide hn
  clear hn
  go_enter Try.func24, Try.ntmps24
  go_wp2
  go_loopw [13] (fun v wr => ∃ k : Nat, k ≤ l.length ∧ v = .int .i64 k ∧ (∃ d, wr = w.drewN d) ∧ Hid (∀ i (h : i < l.length) (h' : i < m.length), i < k → l[i] = m[i])) (fun v _ => l.length - (intOf v).toNat)
  case atStart => exact ⟨0, Nat.zero_le _, rfl, ⟨0, by simp [World.drewN_zero]⟩, hide (fun _ _ _ h => by omega)⟩
  case round =>
    obtain ⟨k, hk, rfl, ⟨d, rfl⟩, hno⟩ := hrel
    by_cases hlt : k < l.length
    · have hlt' : k < m.length := by rw [← HN.out]; exact hlt
      obtain ⟨b, off, rfl, hbl, hat⟩ := H.out.2 (by omega)
      obtain ⟨b', off', rfl, hbl', hat'⟩ := H'.out.2 (by omega)
      obtain ⟨c0, c1⟩ := hat k hlt
      obtain ⟨d0, d1⟩ := hat' k hlt'
      have g0 : (0 : Int) ≤ (k : Int) := by omega
      have g1 : (k : Int) < (l.length : Int) := by omega
      have g2 : (k : Int) < (m.length : Int) := by omega
      clear hat hat' q q'
      by_cases e : l[k] = m[k]
      · have HNO := hide (fun i (h : i < l.length) (h' : i < m.length) (hik : i < k + 1) => (by
          by_cases e' : i = k
          · subst e'; exact e
          · exact hno.out i h h' (by omega) : l[i] = m[i]))
        have e1 : (l[k].1 == m[k].1) = true := by rw [e]; simp
        have e2 : (l[k].2 == m[k].2) = true := by rw [e]; simp
        rw [e] at c0 c1 e1 e2
        clear e
        generalize m[k] = y at *
        go_wp2
        go_quiet (fail)
        go_wp2
        go_roundw
        case rel => exact ⟨k + 1, by omega, by go_num, ⟨d + nq, by first | rfl | (rw [World.drewN_add]) | simp⟩, HNO⟩
        case measure => simp [intOf]; omega
      · have hv : r = false := by
          cases r
          · rfl
          · exact absurd (by have := HR.out.1 rfl; subst this; rfl) e
        subst hv
        have D : (l[k].1 == m[k].1) = false ∨ ((l[k].1 == m[k].1) = true ∧ (l[k].2 == m[k].2) = false) := by
          by_cases h1 : l[k].1 = m[k].1
          · exact .inr ⟨by simpa using h1, by simpa using fun h2 => e (Prod.ext h1 h2)⟩
          · exact .inl (by simpa using h1)
        clear e
        generalize l[k] = x at *
        generalize m[k] = y at *
        rcases D with e1 | ⟨e1, e2⟩
        all_goals
          go_wp2
          go_quiet (fail)
          go_wp2
          go_ret
          exact ⟨rfl, d + nq, by first | rfl | (rw [World.drewN_add]) | simp⟩
    · have hv : r = true := HR.out.2 (List.ext_getElem HN.out (fun i h h' => hno.out i h h' (by omega)))
      subst hv
      clear q q'
      go_wp2
      go_ret
      exact ⟨rfl, d, rfl⟩
end Go.Proofs.Ytkbocphpnmpaeaa
