/- landuse.Valid and the reference's Valid: both report whether a list of classes is valid, for every list; nothing that was there is turned. -/
import Derived.Test.YtaaadejamjbcbaaDoorName
import Derived.Test.YtaaadejamjbcbaaDoorClsPlain
namespace Go.Proofs.YtaaadejamjbcbaaDoor
open Go.RowKit

set_option maxHeartbeats 400000 in
theorem luwithin_any (n m : Int) (w : World) :
    Calls Tryd.prog 26 #[.int .i64 n, .int .i64 m] w fun e w' => e = .returned (.bool (inB n m)) ∧ w = w' := by
  by_cases h1 : 0 ≤ n <;> by_cases h2 : n ≤ m
  all_goals
    go_enter Tryd.func26, Tryd.ntmps26
    go_wp2
    go_ret
    refine ⟨ret_bool ?_, rfl⟩
    simp [inB, h1, h2]

set_option maxHeartbeats 400000 in
theorem clo_any (c : Cls) (b : Nat) (nm : ByteArray) (w : World) (hb : b < w.heap.size) (h0 : w.cell? ⟨b, 0, none⟩ = some (.string nm)) :
    Calls Tryd.prog 49 #[c.val, .pointer (some ⟨b, 0, none⟩)] w fun e w' => e = .returned (.bool (sameS c.nm nm)) ∧ Below w.heap.size w w' := by
  go_enter Tryd.func49, Tryd.ntmps49
  go_wp2
  go_ret
  exact ⟨ret_bool rfl, by go_grown⟩

set_option maxHeartbeats 1000000 in
theorem idxf_any (l : List Cls) (A : Option Addr) (cap bs : Nat) (nm : ByteArray) (w : World) (hl : ClsSl w A l) (h0 : w.cell? ⟨bs, 0, none⟩ = some (.string nm)) :
    Calls Tryd.prog 48 #[.slice A l.length cap, .func (.func 49) #[] #[.pointer (some ⟨bs, 0, none⟩)]] w
      fun e w' => e = .returned (.int .i64 (findI l nm)) ∧ Below w.heap.size w w' := by
  have hlen : l.length ≤ 9223372036854775807 := hl.1.1
  have hbs : bs < w.heap.size := lt_of_cell h0
  have H := hide hl
  clear hl
  have H0 := hide h0
  clear h0
  go_enter Tryd.func48, Tryd.ntmps48
  go_wp2
  go_loopw [8] (fun v8 wr => ∃ k : Nat, k ≤ l.length ∧ v8 = .int .i64 k ∧ Below w.heap.size w wr ∧ Hid (∀ i (hi : i < l.length), i < k → sameS l[i].nm nm = false)) (fun v8 _ => l.length - (intOf v8).toNat)
  case atStart => exact ⟨0, Nat.zero_le _, rfl, Below.refl _ _, hide (fun _ _ h => by omega)⟩
  case round =>
    obtain ⟨k, hk, rfl, hb, hno⟩ := hrel
    have hsz := hb.size
    by_cases hlt : k < l.length
    · obtain ⟨b, off, rfl, hbl, hat⟩ := (H.out.below hb).2 (by omega)
      obtain ⟨c0, c1, c2, c3, c4⟩ := hat k hlt
      clear hat
      have hc := (hb.cell (p := ⟨bs, 0, none⟩) hbs).trans H0.out
      have Hb := hide hb
      clear hb
      by_cases hs : sameS l[k].nm nm = true
      · go_wp2_with (go_at_call 49; refine (clo_any l[k] bs nm _ (by omega) hc).mono ?_; rintro e w' ⟨rfl, hb1⟩)
        go_ret
        exact ⟨ret_int (findI_yes hlt (fun i hi hik => hno.out i hi hik) hs).symm, Hb.out.trans (hb1.mono hsz)⟩
      · have hs : sameS l[k].nm nm = false := by simpa using hs
        go_wp2_with (go_at_call 49; refine (clo_any l[k] bs nm _ (by omega) hc).mono ?_; rintro e w' ⟨rfl, hb1⟩)
        go_roundw
        case rel =>
          refine ⟨k + 1, by omega, by go_num, Hb.out.trans (hb1.mono hsz), hide fun i hi hik => ?_⟩
          by_cases e : i = k
          · subst e; exact hs
          · exact hno.out i hi (by omega)
        case measure => simp [intOf]; omega
    · have Hb := hide hb
      clear hb
      go_wp2
      go_ret
      exact ⟨ret_int (findI_no fun i hi => hno.out i hi (by omega)).symm, Hb.out⟩

set_option maxHeartbeats 1000000 in
theorem index_any (l : List Cls) (A : Option Addr) (cap : Nat) (nm : ByteArray) (w : World) (hl : ClsSl w A l) :
    Calls Tryd.prog 32 #[.slice A l.length cap, .string nm] w fun e w' => e = .returned (.int .i64 (findI l nm)) ∧ Below w.heap.size w w' := by
  have H := hide (hl.below ((Below.refl w.heap.size w).alloc (Nat.le_refl _) (.cells #[.string nm] 9)))
  clear hl
  go_enter Tryd.func32, Tryd.ntmps32
  go_wp2_with (go_at_call 48; refine (idxf_any l A cap w.heap.size nm _ H.out (by go_cell)).mono ?_; rintro e w' ⟨rfl, hb1⟩)
  go_ret
  exact ⟨rfl, ((Below.refl _ _).alloc (Nat.le_refl _) _).trans (hb1.mono (by simp))⟩

set_option maxHeartbeats 2000000 in
theorem luvalid_any (l : List Cls) (A : Option Addr) (cap : Nat) (w : World) (hl : ClsSl w A l) :
    Calls Tryd.prog 18 #[.slice A l.length cap] w fun e w' => e = .returned (.bool (validB l)) ∧ Below w.heap.size w w' := by
  have hlen : l.length ≤ 9223372036854775807 := hl.1.1
  have H := hide hl
  clear hl
  by_cases h1 : 1 ≤ l.length
  case neg =>
    have hv := hide (validB_len0 h1)
    go_enter Tryd.func18, Tryd.ntmps18
    go_wp2
    go_ret
    exact ⟨ret_bool hv.out.symm, Below.refl _ _⟩
  by_cases h2 : l.length ≤ 16
  case neg =>
    have hv := hide (validB_len1 h2)
    go_enter Tryd.func18, Tryd.ntmps18
    go_wp2
    go_ret
    exact ⟨ret_bool hv.out.symm, Below.refl _ _⟩
  go_enter Tryd.func18, Tryd.ntmps18
  go_wp2
  go_loopw [15] (fun v wr => ∃ k : Nat, k ≤ l.length ∧ v = .int .i64 k ∧ Below w.heap.size w wr ∧ Hid (∀ i, i < k → okAt l i = true)) (fun v _ => l.length - (intOf v).toNat)
  case atStart => exact ⟨0, Nat.zero_le _, rfl, Below.refl _ _, hide (fun _ h => by omega)⟩
  case round =>
    obtain ⟨k, hk, rfl, hb, hno⟩ := hrel
    have hsz := hb.size
    by_cases hlt : k < l.length
    · have hsl := H.out.below hb
      obtain ⟨b, off, rfl, hbl, hat⟩ := hsl.2 (by omega)
      have hnm : l[k].nm.size ≤ maxLen := H.out.1.2 k hlt
      obtain ⟨c0, c1, c2, c3, c4⟩ := hat k hlt
      clear hat
      have Hb := hide hb
      have Hsl := hide (hsl.below ((Below.refl wr.heap.size wr).alloc (Nat.le_refl _) (.cells #[.string l[k].nm, .int .i64 l[k].se, .int .i64 l[k].we, .int .i64 l[k].ro, .int .i64 l[k].dr] 54)))
      clear hb hsl
      have hsix := hide (okAt_six hlt)
      have ht := tests6 (nameB l[k].nm.data.toList) (decide (findI l l[k].nm = (k : Int))) (inB l[k].se 1000) (inB l[k].we 100000) (inB l[k].ro 1000000) (inB l[k].dr 1000)
      simp only [decide_eq_true_eq, decide_eq_false_iff_not] at ht
      rcases ht with ⟨t1, t2, t3, t4, t5, t6⟩ | t1 | ⟨t1, t2⟩ | ⟨t1, t2, t3⟩ | ⟨t1, t2, t3, t4⟩ | ⟨t1, t2, t3, t4, t5⟩ | ⟨t1, t2, t3, t4, t5, t6⟩
      all_goals
        go_wp2_with (first | (go_at_call 35; refine (isname_any _ _ hnm).mono ?_; rintro e w' ⟨rfl, rfl⟩) | (go_at_call 26; refine (luwithin_any _ _ _).mono ?_; rintro e w' ⟨rfl, rfl⟩) | (go_at_call 32; refine (index_any l _ cap _ _ Hsl.out).mono ?_; rintro e w' ⟨rfl, hb1⟩; have hc1 := (bcell hb1).1; have hf1 := (bcell hb1).2))
      · go_roundw
        case rel =>
          refine ⟨k + 1, by omega, by go_num, below_via (Hb.out.alloc hsz _) (by simp; omega) hb1, hide fun i hi => ?_⟩
          by_cases e : i = k
          · subst e; rw [hsix.out]; simp [t1, t2, t3, t4, t5, t6]
          · exact hno.out i (by omega)
        case measure => simp [intOf]; omega
      all_goals
        have hv : validB l = false := validB_not hlt (by rw [hsix.out]; simp [*])
        go_ret
        exact ⟨ret_bool hv.symm, by first | exact below_via (Hb.out.alloc hsz _) (by simp; omega) hb1 | exact Hb.out.alloc hsz _⟩
    · have hv := hide (validB_yes h1 h2 (fun i hi => hno.out i (by omega)))
      have Hb := hide hb
      clear hb
      go_wp2
      go_ret
      exact ⟨ret_bool hv.out.symm, Hb.out⟩
end Go.Proofs.YtaaadejamjbcbaaDoor
