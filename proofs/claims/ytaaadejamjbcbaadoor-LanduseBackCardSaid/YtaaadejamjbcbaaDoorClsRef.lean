/- The reference's Right, Find, and Valid on classes: for every list; nothing that was there is turned. -/
import Derived.Test.YtaaadejamjbcbaaDoorCls
namespace Go.Proofs.YtaaadejamjbcbaaDoor
open Go.RowKit

set_option maxHeartbeats 1000000 in
theorem right_any (c : Cls) (w : World) (hnm : c.nm.size ≤ maxLen) :
    Calls Tryd.prog 34 #[c.val] w fun e w' => e = .returned (.bool (rightB c)) ∧ Below w.heap.size w w' := by
  rcases Bool.eq_false_or_eq_true (nameB c.nm.data.toList) with hx | hx
  all_goals
    go_enter Tryd.func34, Tryd.ntmps34
    go_wp2_with (go_at_call 50; refine (risname_any _ _ hnm).mono ?_; rintro e w' ⟨rfl, rfl⟩)
    all_goals go_ret
    all_goals refine ⟨ret_bool ?_, by go_grown⟩
    all_goals simp [rightB, inB, hx]
    all_goals first | omega | (rw [Bool.eq_iff_iff]; simp; omega)

set_option maxHeartbeats 1000000 in
theorem rfind_any (l : List Cls) (A : Option Addr) (cap : Nat) (nm : ByteArray) (w : World) (hl : ClsSl w A l) :
    Calls Tryd.prog 19 #[.slice A l.length cap, .string nm] w fun e w' => e = .returned (.int .i64 (findI l nm)) ∧ w = w' := by
  have hlen : l.length ≤ 9223372036854775807 := hl.1.1
  have H := hide hl
  clear hl
  go_enter Tryd.func19, Tryd.ntmps19
  go_wp2
  go_loop [5] (fun v => ∃ k : Nat, k ≤ l.length ∧ v = .int .i64 k ∧ Hid (∀ i (hi : i < l.length), i < k → sameS l[i].nm nm = false)) (fun v => l.length - (intOf v).toNat)
  case atStart => exact ⟨0, Nat.zero_le _, rfl, hide (fun _ _ h => by omega)⟩
  case round =>
    obtain ⟨k, hk, rfl, hno⟩ := hrel
    by_cases hlt : k < l.length
    · obtain ⟨b, off, rfl, hbl, hat⟩ := H.out.2 (by omega)
      obtain ⟨c0, c1, c2, c3, c4⟩ := hat k hlt
      clear hat
      by_cases hs : sameS l[k].nm nm = true
      · have hs' : (l[k].nm.toList == nm.toList) = true := hs
        have hs := hide hs
        go_wp2
        go_ret
        exact ⟨ret_int (findI_yes hlt (fun i hi hik => hno.out i hi hik) hs.out).symm, rfl⟩
      · have hs : sameS l[k].nm nm = false := by simpa using hs
        have hs' : (l[k].nm.toList == nm.toList) = false := hs
        have hs := hide hs
        go_wp2
        go_round
        case rel =>
          refine ⟨k + 1, by omega, by go_num, hide fun i hi hik => ?_⟩
          by_cases e : i = k
          · subst e; exact hs.out
          · exact hno.out i hi (by omega)
        case measure => simp [intOf]; omega
    · go_wp2
      go_ret
      exact ⟨ret_int (findI_no fun i hi => hno.out i hi (by omega)).symm, rfl⟩

set_option maxHeartbeats 2000000 in
theorem rvalid_any (l : List Cls) (A : Option Addr) (cap : Nat) (w : World) (hl : ClsSl w A l) :
    Calls Tryd.prog 17 #[.slice A l.length cap] w fun e w' => e = .returned (.bool (validB l)) ∧ Below w.heap.size w w' := by
  have hlen : l.length ≤ 9223372036854775807 := hl.1.1
  have H := hide hl
  clear hl
  by_cases h1 : 1 ≤ l.length
  case neg =>
    have hv := hide (validB_len0 h1)
    go_enter Tryd.func17, Tryd.ntmps17
    go_wp2
    go_ret
    exact ⟨ret_bool hv.out.symm, Below.refl _ _⟩
  by_cases h2 : l.length ≤ 16
  case neg =>
    have hv := hide (validB_len1 h2)
    go_enter Tryd.func17, Tryd.ntmps17
    go_wp2
    go_ret
    exact ⟨ret_bool hv.out.symm, Below.refl _ _⟩
  go_enter Tryd.func17, Tryd.ntmps17
  go_wp2
  go_loopw [3] (fun v wr => ∃ k : Nat, k ≤ l.length ∧ v = .int .i64 k ∧ Below w.heap.size w wr ∧ Hid (∀ i, i < k → okAt l i = true)) (fun v _ => l.length - (intOf v).toNat)
  case atStart => exact ⟨0, Nat.zero_le _, rfl, Below.refl _ _, hide (fun _ h => by omega)⟩
  case round =>
    obtain ⟨k, hk, rfl, hb, hno⟩ := hrel
    have hsz := hb.size
    by_cases hlt : k < l.length
    · have hsl := H.out.below hb
      obtain ⟨b, off, rfl, hbl, hat⟩ := hsl.2 (by omega)
      have hnm : l[k].nm.size ≤ maxLen := H.out.1.2 k hlt
      obtain ⟨c0, c1, c2, c3, c4⟩ := hat k hlt
      clear hat
      have Hb := hide hb
      have Hsl := hide hsl
      clear hb hsl
      have hok := hide (okAt_get hlt)
      have ht : (rightB l[k] = false) ∨ (rightB l[k] = true ∧ ¬ findI l l[k].nm = (k : Int)) ∨ (rightB l[k] = true ∧ findI l l[k].nm = (k : Int)) := by
        cases rightB l[k] <;> by_cases e : findI l l[k].nm = (k : Int) <;> simp [e]
      rcases ht with t1 | ⟨t1, t2⟩ | ⟨t1, t2⟩
      all_goals
        go_wp2_with (first | (go_at_call 34; refine (right_any l[k] _ hnm).mono ?_; rintro e w' ⟨rfl, hb1⟩; have hc1 := (bcell hb1).1; have hf1 := (bcell hb1).2) | (go_at_call 19; refine (rfind_any l _ cap _ _ (Hsl.out.below hb1)).mono ?_; rintro e w' ⟨rfl, rfl⟩))
      · have hv : validB l = false := validB_not hlt (by rw [hok.out]; simp [*])
        go_ret
        exact ⟨ret_bool hv.symm, below_via Hb.out hsz hb1⟩
      · have hv : validB l = false := validB_not hlt (by rw [hok.out]; simp [*])
        go_ret
        exact ⟨ret_bool hv.symm, below_via Hb.out hsz hb1⟩
      · go_roundw
        case rel =>
          refine ⟨k + 1, by omega, by go_num, below_via Hb.out hsz hb1, hide fun i hi => ?_⟩
          by_cases e : i = k
          · subst e; rw [hok.out]; simp [t1, t2]
          · exact hno.out i (by omega)
        case measure => simp [intOf]; omega
    · have hv := hide (validB_yes h1 h2 (fun i hi => hno.out i (by omega)))
      have Hb := hide hb
      clear hb
      go_wp2
      go_ret
      exact ⟨ret_bool hv.out.symm, Hb.out⟩
end Go.Proofs.YtaaadejamjbcbaaDoor
