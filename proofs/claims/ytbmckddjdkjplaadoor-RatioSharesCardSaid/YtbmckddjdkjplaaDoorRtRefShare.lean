/- The reference's Part, Given, and Share: what each returns; nothing that was there is turned. -/
import Derived.Test.YtbmckddjdkjplaaDoorRtShare
namespace Go.Proofs.YtbmckddjdkjplaaDoor
open Go.RowKit

theorem i64_and_is {a b c : Nat} (h : a &&& b = c) (ha : a < 9223372036854775808) (hb : b < 9223372036854775808) : bits .and .i64 (a : Int) (b : Int) = (c : Int) := by rw [i64_and_nat a b ha hb, h]
set_option maxRecDepth 100000 in
set_option maxHeartbeats 2000000 in
theorem part_any (T : Nat) (p s : Int) (w : World) (hT : T ≤ 1125899906842624) (h0 : 0 ≤ p) (hps : p ≤ s) (hs : 0 < s) (hs' : s ≤ 1152921504606846976) :
    Calls Tryd.prog 48 #[.int .i64 (T : Int), .int .i64 p, .int .i64 s] w fun e w' => e = .returned (.int .i64 ((T : Int) * p / s)) ∧ w = w' := by
  have hT' : (T : Int) ≤ 1125899906842624 := by omega
  have PS := hide (part_start (t := T) (p := p) (s := s) (by omega) hs)
  go_enter Tryd.func48, Tryd.ntmps48
  go_wp2
  go_loop [7, 8, 9] (fun v7 v8 v9 => ∃ (q r : Int) (P : Nat), v7 = .int .i64 q ∧ v8 = .int .i64 r ∧ v9 = .int .i64 ((P / 2 : Nat) : Int) ∧ Hid (PartRel T p s q r P)) (fun _ _ v9 => (intOf v9).toNat)
  case atStart => exact ⟨0, 0, 4611686018427387904, rfl, rfl, rfl, PS⟩
  case round =>
    obtain ⟨q, r, P, rfl, rfl, rfl, HP⟩ := hrel
    have hb := part_q h0 hps HP.out
    by_cases hP : 1 < P
    · obtain ⟨Q, rfl, hQ, hQ', hor, k1, k2⟩ := part_round HP.out hP
      have e2 : ((2 * Q / 2 : Nat) : Int) = (Q : Int) := by omega
      have e3 : (Q : Int).tdiv 2 = ((Q / 2 : Nat) : Int) := by rw [Int.tdiv_eq_ediv_of_nonneg (by omega)]; omega
      rw [e2]
      obtain ⟨b1, b2, b3, b4⟩ := hb
      have c1 : decide (0 < (Q : Int)) = true := decide_eq_true (by omega)
      have hQ1 : (Q : Int) ≤ 2305843009213693952 := by omega
      have hQ2 : 0 < (Q : Int) := by omega
      rcases hor with hor | hor
      · have ha := i64_and_is hor (by omega) (by omega)
        have c2 : ((Q : Int) != 0) = true := by simp; omega
        have K := hide (k1 hor)
        have b5 : 2 * r + p < 3 * s := by omega
        have b6 : 0 ≤ 2 * r + p := by omega
        clear hor k1 k2 hP HP e2 hQ hQ'
        go_wp2
        generalize hy : 2 * r + p = y at *
        generalize hz : 2 * q = z at *
        go_loop [7, 8] (fun v7 v8 => ∃ q' r' : Int, v7 = .int .i64 q' ∧ v8 = .int .i64 r' ∧ ((q' = z ∧ r' = y) ∨ (q' = z + 1 ∧ r' = y - s ∧ s ≤ y) ∨ (q' = z + 2 ∧ r' = y - 2 * s ∧ 2 * s ≤ y))) (fun _ v8 => (intOf v8).toNat)
        case atStart => exact ⟨z, y, rfl, rfl, .inl ⟨rfl, rfl⟩⟩
        case round =>
          obtain ⟨q', r', rfl, rfl, hr⟩ := hrel
          have hbd : 0 ≤ q' ∧ q' ≤ 2251799813685250 ∧ 0 ≤ r' ∧ r' ≤ 3458764513820540928 := by omega
          obtain ⟨m1, m2, m3, m4⟩ := hbd
          by_cases hge : s ≤ r'
          · have c3 : decide (s ≤ r') = true := decide_eq_true hge
            have HR : Hid ((q' + 1 = z ∧ r' - s = y) ∨ (q' + 1 = z + 1 ∧ r' - s = y - s ∧ s ≤ y) ∨ (q' + 1 = z + 2 ∧ r' - s = y - 2 * s ∧ 2 * s ≤ y)) := hide (by omega)
            clear hr hy hz
            go_wp2
            go_round
            case rel => exact ⟨q' + 1, r' - s, by go_num, by go_num, HR.out⟩
            case measure => simp [intOf]; omega
          · have c3 : decide (s ≤ r') = false := decide_eq_false hge
            have HR : Hid (PartRel T p s q' r' Q) := hide (K.out q' r' (by
              rcases hr with ⟨e1, e2⟩ | ⟨e1, e2, _⟩ | ⟨e1, e2, _⟩
              · rw [e1, e2, ← hz, ← hy]
              · rw [e1, e2, ← hz, ← hy, Int.add_mul]; omega
              · rw [e1, e2, ← hz, ← hy, Int.add_mul]; omega) m3 (by omega) m1)
            clear hr hy hz
            go_wp2
            go_round
            case rel => exact ⟨q', r', Q, by go_num, by go_num, by go_num, HR⟩
            case measure => simp [intOf]; omega
      · have ha := i64_and_is hor (by omega) (by omega)
        have K := hide (k2 hor)
        have b5 : 2 * r < 2 * s := by omega
        have b6 : 0 ≤ 2 * r := by omega
        clear hor k1 k2 hP HP e2 hQ hQ'
        go_wp2
        generalize hy : 2 * r = y at *
        generalize hz : 2 * q = z at *
        go_loop [7, 8] (fun v7 v8 => ∃ q' r' : Int, v7 = .int .i64 q' ∧ v8 = .int .i64 r' ∧ ((q' = z ∧ r' = y) ∨ (q' = z + 1 ∧ r' = y - s ∧ s ≤ y))) (fun _ v8 => (intOf v8).toNat)
        case atStart => exact ⟨z, y, rfl, rfl, .inl ⟨rfl, rfl⟩⟩
        case round =>
          obtain ⟨q', r', rfl, rfl, hr⟩ := hrel
          have hbd : 0 ≤ q' ∧ q' ≤ 2251799813685250 ∧ 0 ≤ r' ∧ r' ≤ 3458764513820540928 := by omega
          obtain ⟨m1, m2, m3, m4⟩ := hbd
          by_cases hge : s ≤ r'
          · have c3 : decide (s ≤ r') = true := decide_eq_true hge
            have HR : Hid ((q' + 1 = z ∧ r' - s = y) ∨ (q' + 1 = z + 1 ∧ r' - s = y - s ∧ s ≤ y)) := hide (by omega)
            clear hr hy hz
            go_wp2
            go_round
            case rel => exact ⟨q' + 1, r' - s, by go_num, by go_num, HR.out⟩
            case measure => simp [intOf]; omega
          · have c3 : decide (s ≤ r') = false := decide_eq_false hge
            have HR : Hid (PartRel T p s q' r' Q) := hide (K.out q' r' (by
              rcases hr with ⟨e1, e2⟩ | ⟨e1, e2, _⟩
              · rw [e1, e2, ← hz, ← hy]
              · rw [e1, e2, ← hz, ← hy, Int.add_mul]; omega) m3 (by omega) m1)
            clear hr hy hz
            go_wp2
            go_round
            case rel => exact ⟨q', r', Q, by go_num, by go_num, by go_num, HR⟩
            case measure => simp [intOf]; omega
    · have e : P = 1 := by
        obtain ⟨j, e1, _⟩ := HP.out
        have := Nat.two_pow_pos j
        omega
      subst e
      have E := hide (part_end hs HP.out)
      clear HP hb
      go_wp2
      go_ret
      exact ⟨ret_int E.out.symm, rfl⟩
theorem shE_big {t : Int} {l : List Int} (h : l.length ≤ 10000) (ht : ¬ (t < 0 ∨ 1125899906842624 < t)) (hw : wOk l) {k : Nat} (hk : k ≤ l.length) (hx : 1152921504606846976 < preS l k) : shE t l = 5 := by
  have := preS_mono hw hk (Nat.le_refl _)
  rw [preS_all] at this
  rw [shE_rest h ht hw, if_pos (by omega)]
set_option maxRecDepth 100000 in
set_option maxHeartbeats 2000000 in
theorem given_any (t : Int) (l : List Int) (A : Option Addr) (cap : Nat) (w : World) (hl : IntSl w A l) :
    Calls Tryd.prog 47 #[.int .i64 t, .slice A l.length cap] w fun e w' => e = .returned (.int .i64 (shE t l)) ∧ w = w' := by
  have hlen : l.length ≤ 9223372036854775807 := hl.1.1
  have HL := hide hl
  clear hl
  by_cases h1 : 10000 < l.length
  · have H := hide (shE_full (t := t) h1)
    have c1 : decide ((10000 : Int) < (l.length : Int)) = true := decide_eq_true (by omega)
    clear h1
    go_enter Tryd.func47, Tryd.ntmps47
    go_wp2
    go_ret
    exact ⟨ret_int H.out.symm, rfl⟩
  have h1' : l.length ≤ 10000 := by omega
  have c1 : decide ((10000 : Int) < (l.length : Int)) = false := decide_eq_false (by omega)
  by_cases h2 : t < 0
  · have H := hide (shE_total (t := t) h1' (.inl h2))
    have c2 : decide (t < 0) = true := decide_eq_true h2
    clear h1 h2 h1'
    go_enter Tryd.func47, Tryd.ntmps47
    go_wp2
    go_ret
    exact ⟨ret_int H.out.symm, rfl⟩
  have c2 : decide (t < 0) = false := decide_eq_false h2
  by_cases h3 : 1125899906842624 < t
  · have H := hide (shE_total (t := t) h1' (.inr h3))
    have c3 : decide (1125899906842624 < t) = true := decide_eq_true h3
    clear h1 h2 h1' h3
    go_enter Tryd.func47, Tryd.ntmps47
    go_wp2
    go_ret
    exact ⟨ret_int H.out.symm, rfl⟩
  have c3 : decide (1125899906842624 < t) = false := decide_eq_false h3
  have ht : ¬ (t < 0 ∨ 1125899906842624 < t) := by omega
  have EW := hide (fun k (hk : k < l.length) hx => shE_weight (t := t) h1' ht hk hx)
  have ER := hide (fun hw => shE_rest (t := t) h1' ht hw)
  have EB := hide (fun hw k hk hx => shE_big (t := t) h1' ht hw (k := k) hk hx)
  clear h1 h2 h3 ht
  go_enter Tryd.func47, Tryd.ntmps47
  go_wp2
  go_loop [5] (fun v5 => ∃ k : Nat, k ≤ l.length ∧ v5 = .int .i64 k ∧ Hid (∀ i (h : i < l.length), i < k → 0 ≤ l[i] ∧ l[i] ≤ 1125899906842624)) (fun v5 => l.length - (intOf v5).toNat)
  case atStart => exact ⟨0, Nat.zero_le _, rfl, hide (fun _ _ h => by omega)⟩
  case round =>
    obtain ⟨k, hk, rfl, HW⟩ := hrel
    by_cases hlt : k < l.length
    · obtain ⟨b, off, rfl, hbl, hat⟩ := HL.out.2 (by omega)
      have c0 := hat k hlt
      clear hat
      by_cases hx0 : l[k] < 0
      · have d0 : decide (l[k] < 0) = true := decide_eq_true hx0
        have H := hide (EW.out k hlt (by omega))
        clear hx0
        generalize l[k] = x at *
        go_wp2
        go_ret
        exact ⟨ret_int H.out.symm, rfl⟩
      by_cases hx1 : 1125899906842624 < l[k]
      · have d0 : decide (l[k] < 0) = false := decide_eq_false hx0
        have d1 : decide (1125899906842624 < l[k]) = true := decide_eq_true hx1
        have H := hide (EW.out k hlt (by omega))
        clear hx0 hx1
        generalize l[k] = x at *
        go_wp2
        go_ret
        exact ⟨ret_int H.out.symm, rfl⟩
      have d0 : decide (l[k] < 0) = false := decide_eq_false hx0
      have d1 : decide (1125899906842624 < l[k]) = false := decide_eq_false hx1
      have HW' : Hid (∀ i (h : i < l.length), i < k + 1 → 0 ≤ l[i] ∧ l[i] ≤ 1125899906842624) := hide fun i h hi => by
        by_cases e : i = k
        · subst e; omega
        · exact HW.out i h (by omega)
      clear hx0 hx1
      generalize l[k] = x at *
      go_wp2
      go_round
      case rel => exact ⟨k + 1, by omega, by go_num, HW'⟩
      case measure => simp [intOf]; omega
    · have e : k = l.length := by omega
      subst e
      have HW2 : Hid (wOk l) := hide fun i h => HW.out i h h
      clear HW
      go_wp2
      go_loop [6, 7] (fun v6 v7 => ∃ k : Nat, k ≤ l.length ∧ v7 = .int .i64 k ∧ v6 = .int .i64 (preS l k) ∧ preS l k ≤ 1152921504606846976) (fun _ v7 => l.length - (intOf v7).toNat)
      case atStart => exact ⟨0, Nat.zero_le _, rfl, by rw [preS_zero], by rw [preS_zero]; decide⟩
      case round =>
        obtain ⟨k, hk, rfl, rfl, hp⟩ := hrel
        have hp0 := (preS_bd HW2.out k hk).1
        by_cases hlt : k < l.length
        · obtain ⟨b, off, rfl, hbl, hat⟩ := HL.out.2 (by omega)
          have c0 := hat k hlt
          clear hat
          have hx := HW2.out k hlt
          have e := preS_succ l k hlt
          obtain ⟨x0, x1⟩ := hx
          by_cases hg : 1152921504606846976 < preS l k + l[k]
          · have d0 : decide (1152921504606846976 < preS l k + l[k]) = true := decide_eq_true hg
            have H := hide (EB.out HW2.out (k + 1) hlt (by omega))
            clear e hg
            generalize preS l k = y at *
            generalize l[k] = x at *
            go_wp2
            go_ret
            exact ⟨ret_int H.out.symm, rfl⟩
          · have d0 : decide (1152921504606846976 < preS l k + l[k]) = false := decide_eq_false hg
            have E := hide (And.intro e (show preS l (k + 1) ≤ 1152921504606846976 by omega))
            clear e hg
            generalize preS l k = y at *
            generalize l[k] = x at *
            go_wp2
            go_round
            case rel => exact ⟨k + 1, by omega, by go_num, by rw [E.out.1], E.out.2⟩
            case measure => simp [intOf]; omega
        · have e : k = l.length := by omega
          subst e
          have E := ER.out HW2.out
          rw [preS_all] at hp hp0 ⊢
          rw [if_neg (by omega)] at E
          by_cases hz : l.sum = 0
          · rw [if_pos hz] at E
            have H := hide E
            rw [hz]
            clear E hz hp hp0
            go_wp2
            go_ret
            exact ⟨ret_int H.out.symm, rfl⟩
          · rw [if_neg hz] at E
            have d3 : (l.sum == 0) = false := by simpa using hz
            have H := hide E
            clear E hz
            generalize l.sum = y at *
            go_wp2
            go_ret
            exact ⟨ret_int H.out.symm, rfl⟩
theorem ne_z {x : Int} (h : x ≠ 0) : (x == 0) = false ∧ (x != 0) = true := ⟨by simpa using h, by simpa using h⟩
set_option maxRecDepth 100000 in
set_option maxHeartbeats 4000000 in
theorem rshare_any (t : Int) (l : List Int) (A : Option Addr) (cap : Nat) (w : World) (hl : IntSl w A l) :
    Calls Tryd.prog 19 #[.int .i64 t, .slice A l.length cap] w (SharePost t l w) := by
  have hlen : l.length ≤ 9223372036854775807 := hl.1.1
  have HL := hide hl
  have G := hide (fun W hW => given_any t l A cap W hW)
  clear hl
  by_cases h0 : shE t l = 0
  case neg =>
    have H := hide h0
    obtain ⟨z1, z2⟩ := ne_z h0
    clear h0
    generalize hE : shE t l = er at *
    have HE := hide hE
    clear hE
    go_enter Tryd.func19, Tryd.ntmps19
    go_wp2_with fail
    refine (G.out _ HL.out).mono ?_
    rintro e w' ⟨rfl, rfl⟩
    go_wp2
    exact bodyPost_ret (v := .tuple #[.slice none 0 0, .int .i64 er]) (by simp [results, Tryd.results19, go_sem]) rfl (SharePost.err (Below.refl _ _) HE.out H.out)
  obtain ⟨h1, h2, h3, h4, h5⟩ : l.length ≤ 10000 ∧ (0 ≤ t ∧ t ≤ 1125899906842624) ∧ wOk l ∧ l.sum ≤ 1152921504606846976 ∧ l.sum ≠ 0 := by
    unfold shE at h0
    split at h0
    · omega
    · split at h0
      · omega
      · split at h0
        · omega
        · split at h0
          · omega
          · split at h0
            · omega
            · rename_i a1 a2 a3 a4 a5
              exact ⟨by omega, by omega, wB_iff.1 (by simpa using a3), by omega, a5⟩
  have hp := (preS_bd h3 l.length (Nat.le_refl _)).1
  rw [preS_all] at hp
  obtain ⟨SS, hSS⟩ : ∃ SS : Nat, l.sum = (SS : Int) := ⟨l.sum.toNat, by omega⟩
  have hS0 : 0 < SS := by omega
  have hS1 : SS ≤ 1152921504606846976 := by omega
  obtain ⟨T, rfl⟩ : ∃ T : Nat, t = (T : Int) := ⟨t.toNat, by omega⟩
  have hT : T ≤ 1125899906842624 := by omega
  have ST := hide (fun k (hk : k < l.length) => share_step hT hSS hS0 hS1 h3 k hk)
  have HE := hide (And.intro h0 (And.intro hSS (And.intro hS0 (And.intro hS1 (And.intro hT h3)))))
  rw [h0] at G
  obtain ⟨i0, hi0, hz0, hz1, hz2⟩ := info_parts int_info
  have hS2 : (SS : Int) ≤ 1152921504606846976 := by omega
  have hT2 : (T : Int) ≤ 1125899906842624 := by omega
  clear h0 h2 h3 h4 h5 hp hS0 hS1 hT
  go_enter Tryd.func19, Tryd.ntmps19
  go_wp2_with fail
  refine (G.out _ HL.out).mono ?_
  rintro e w' ⟨rfl, rfl⟩
  go_wp2
  go_loop [7, 8] (fun v7 v8 => ∃ k : Nat, k ≤ l.length ∧ v8 = .int .i64 k ∧ v7 = .int .i64 (preS l k)) (fun _ v8 => l.length - (intOf v8).toNat)
  case atStart => exact ⟨0, Nat.zero_le _, rfl, by rw [preS_zero]⟩
  case round =>
    obtain ⟨k, hk, rfl, rfl⟩ := hrel
    by_cases hlt : k < l.length
    · obtain ⟨b, off, rfl, hbl, hat⟩ := HL.out.2 (by omega)
      have c0 := hat k hlt
      obtain ⟨F, Q, f1, f2, f3, f4, f5, f6, f7, f8, f9, f10, f11⟩ := ST.out k hlt
      have eF : preS l k + l[k] = (F : Int) := by rw [← f1, preS_succ l k hlt]
      have E := hide f1
      have b2 : (F : Int) ≤ 1152921504606846976 := by omega
      clear hat f1 f2 f3 f4 f5 f6 f7 f8 f9
      generalize preS l k = y at *
      generalize l[k] = x at *
      go_wp2
      go_round
      case rel => exact ⟨k + 1, by omega, by go_num, by rw [E.out]⟩
      case measure => simp [intOf]; omega
    · have e : k = l.length := by omega
      subst e
      rw [preS_all, HE.out.2.1]
      go_wp2
      go_loopw [9, 10, 11, 12] (fun v9 v10 v11 v12 wr => ∃ k : Nat, k ≤ l.length ∧ v12 = .int .i64 k ∧ v10 = .int .i64 (preS l k) ∧ v11 = .int .i64 (qK (T : Int) (SS : Int) l k) ∧
        Hid (Below w.heap.size w wr ∧ wr.ownsRow w.heap.size 3 1 v9 k ((shK (T : Int) (SS : Int) l k).map (Value.int .i64)))) (fun _ _ _ v12 _ => l.length - (intOf v12).toNat)
      case atStart => exact ⟨0, Nat.zero_le _, rfl, by rw [preS_zero], by rw [qK_zero], hide ⟨Below.refl _ _, World.ownsRow_nil _ _ _ _⟩⟩
      case round =>
        obtain ⟨k, hk, rfl, rfl, rfl, HR⟩ := hrel
        by_cases hlt : k < l.length
        · obtain ⟨b, off, rfl, hbl, hat⟩ := (HL.out.below HR.out.1).2 (by omega)
          have c0 := hat k hlt
          obtain ⟨F, Q, f1, f2, f3, f4, f5, f6, f7, f8, f9, f10, f11⟩ := ST.out k hlt
          have PA := fun W => part_any T (F : Int) (SS : Int) W HE.out.2.2.2.2.1 (by omega) (by omega) (by have := HE.out.2.2.1; omega) hS2
          have eQ : (T : Int) * (F : Int) / (SS : Int) = (Q : Int) := by rw [← f6]; unfold qK; rw [f1]
          rw [eQ] at PA
          have eF : preS l k + l[k] = (F : Int) := by rw [← f1, preS_succ l k hlt]
          have EQ := hide (And.intro f1 f6)
          have b2 : (F : Int) ≤ 1152921504606846976 := by omega
          have b3 : (Q : Int) ≤ 1125899906842624 := by omega
          have ES : Hid (shK (T : Int) (SS : Int) l (k + 1) = shK (T : Int) (SS : Int) l k ++ [(Q : Int) - qK (T : Int) (SS : Int) l k]) := hide (by rw [← f6]; rfl)
          clear hat f1 f2 f3 f4 f5 f6 f7 eQ
          generalize preS l k = p at *
          generalize qK (T : Int) (SS : Int) l k = q at *
          generalize hR : shK (T : Int) (SS : Int) l k = R at *
          generalize l[k] = x at *
          clear hR
          go_wp2_with fail
          refine (PA _).mono ?_
          rintro e w' ⟨rfl, rfl⟩
          generalize wr = W at *
          go_wp2_with (at_builtin; refine wpList_append_own _ rfl _ _ 32 rfl w.heap.size 3 i0 (.int .i64 0) 1 8 Tryd.underlying32 hi0 hz0 hz1 hz2 rfl (by decide) _ k (R.map (Value.int .i64)) rfl (HR.out.2.alloc (.cells #[.int .i64 ((Q : Int) - q)] 3)) ⟨W.heap.size, 0, none⟩ 1 1 [.int .i64 ((Q : Int) - q)] rfl rfl (World.news_of_block (cs := #[.int .i64 ((Q : Int) - q)]) (t := 3) (fr := (0, 0)) (heap_new_at (by rfl))) (by simp [Value.oneCell']) (by unfold maxLen; omega) (by omega) (by have := HR.out.1.size; simp; omega) ?_; intro v4 w4 hown4 hgrow _)
          have B5 : Below w.heap.size w w4 := (HR.out.1.alloc HR.out.1.size (.cells #[.int .i64 ((Q : Int) - q)] 3)).grown hgrow (by have := HR.out.1.size; simp; omega) (fun k hk => ((HR.out.2.alloc (.cells #[.int .i64 ((Q : Int) - q)] 3)).lt k hk).1)
          have B4 := hide (And.intro B5 hown4)
          clear B5
          clear hown4 hgrow
          go_roundw
          case rel => exact ⟨k + 1, by omega, by go_num, by rw [EQ.out.1], by rw [EQ.out.2], hide ⟨B4.out.1, by rw [ES.out, List.map_append]; exact B4.out.2⟩⟩
          case measure => simp [intOf]; omega
        · have e : k = l.length := by omega
          subst e
          obtain ⟨E, e1, e2, e3, e4, e5⟩ := HE.out
          have hbd : ∀ i (h : i < (shK (T : Int) (SS : Int) l l.length).length), -9223372036854775808 ≤ (shK (T : Int) (SS : Int) l l.length)[i] ∧ (shK (T : Int) (SS : Int) l l.length)[i] ≤ 9223372036854775807 := fun i h => by
            have := shK_bd (t := (T : Int)) (S := (SS : Int)) (by omega) (by omega) (by omega) e5 (by omega) i h
            omega
          have hll := shK_length (T : Int) (SS : Int) l l.length
          obtain ⟨A', cp, rfl, hsl⟩ := IntSl.of_row HR.out.2 (by omega) hbd
          have hfr := row_fresh HR.out.2
          have eL : shL (T : Int) l = shK (T : Int) (SS : Int) l l.length := by unfold shL; rw [E, if_pos rfl, e1]
          have FIN := hide (And.intro HR.out.1 (And.intro hsl (And.intro hfr (And.intro eL E))))
          clear hsl hfr eL E e1 e2 e3 e4 e5 hbd hll
          go_wp2
          exact bodyPost_ret (v := .tuple #[.slice A' (shK (T : Int) (SS : Int) l l.length).length cp, .int .i64 0]) (by simp [results, Tryd.results19, go_sem]) rfl
            ⟨FIN.out.1, A', cp, by rw [FIN.out.2.2.2.1, FIN.out.2.2.2.2], by rw [FIN.out.2.2.2.1]; exact FIN.out.2.1, FIN.out.2.2.1⟩
end Go.Proofs.YtbmckddjdkjplaaDoor
