/- The reference's Metres: what it returns; nothing that was there is turned. -/
import Derived.Test.YtaaadejamjbcbaaDoorMeMet
import Derived.Test.YtaaadejamjbcbaaDoorMePart
namespace Go.Proofs.YtaaadejamjbcbaaDoor
open Go.RowKit

theorem row_capM {w : World} {base : Nat} {e : TypeId} {size n m c : Nat} {A : Option Addr} {xs : List Value} (h : w.ownsRow base e size (.slice A n c) m xs) : n ≤ c := by
  rcases h.2 with ⟨h1, _⟩ | ⟨g, cap, cur, h1, _, _, h2, _⟩
  · cases h1; exact Nat.le_refl _
  · cases h1; exact h2
theorem preS_big {l : List Int} (hw : wOk l) {k : Nat} (hk : k ≤ l.length) (h : 1152921504606846976 < preS l k) : 1152921504606846976 < l.sum := by
  have := preS_mono hw hk (Nat.le_refl _)
  rw [preS_all] at this
  omega
set_option maxRecDepth 100000 in
set_option maxHeartbeats 4000000 in
theorem rmetres_any (l : List Int) (A : Option Addr) (cap : Nat) (w : World) (hl : IntSl w A l) :
    Calls Tryd.prog 10 #[.slice A l.length cap] w (MePost l w) := by
  have hlen : l.length ≤ 9223372036854775807 := hl.1.1
  have HL := hide hl
  clear hl
  by_cases h1 : 1000 < l.length
  · have H := hide (meE_full h1)
    have c1 : decide ((1000 : Int) < (l.length : Int)) = true := decide_eq_true (by omega)
    clear h1
    go_enter Tryd.func10, Tryd.ntmps10
    go_wp2
    exact bodyPost_ret (v := .tuple #[.slice none 0 0, .int .i64 4]) (by simp [results, Tryd.results10, go_sem]) rfl (MePost.err (Below.refl _ _) H.out (by decide))
  have h1' : l.length ≤ 1000 := by omega
  have c1 : decide ((1000 : Int) < (l.length : Int)) = false := decide_eq_false (by omega)
  have EW := hide (fun k (hk : k < l.length) hx => meE_range h1' hk hx)
  have ER := hide (fun hw => meE_rest h1' hw)
  obtain ⟨i0, hi0, hz0, hz1, hz2⟩ := info_parts int_info15
  clear h1
  go_enter Tryd.func10, Tryd.ntmps10
  go_wp2
  go_loop [4] (fun v4 => ∃ k : Nat, k ≤ l.length ∧ v4 = .int .i64 k ∧ Hid (∀ i (h : i < l.length), i < k → 0 ≤ l[i] ∧ l[i] ≤ 1152921504606846976)) (fun v4 => l.length - (intOf v4).toNat)
  case atStart => exact ⟨0, Nat.zero_le _, rfl, hide (fun _ _ h => by omega)⟩
  case round =>
    obtain ⟨k, hk, rfl, HW⟩ := hrel
    by_cases hlt : k < l.length
    · obtain ⟨b, off, rfl, hbl, hat⟩ := HL.out.2 (by omega)
      have c0 := hat k hlt
      clear hat
      by_cases hx0 : l[k] < 0
      · have d0 : decide (l[k] < 0) = true := decide_eq_true hx0
        have H := hide (EW.out k hlt (by omega))
        clear hx0
        generalize l[k] = x at *
        go_wp2
        exact bodyPost_ret (v := .tuple #[.slice none 0 0, .int .i64 2]) (by simp [results, Tryd.results10, go_sem]) rfl (MePost.err (Below.refl _ _) H.out (by decide))
      have d0 : decide (l[k] < 0) = false := decide_eq_false hx0
      by_cases hx1 : 1152921504606846976 < l[k]
      · have d1 : decide (1152921504606846976 < l[k]) = true := decide_eq_true hx1
        have H := hide (EW.out k hlt (by omega))
        clear hx0 hx1
        generalize l[k] = x at *
        go_wp2
        exact bodyPost_ret (v := .tuple #[.slice none 0 0, .int .i64 2]) (by simp [results, Tryd.results10, go_sem]) rfl (MePost.err (Below.refl _ _) H.out (by decide))
      have d1 : decide (1152921504606846976 < l[k]) = false := decide_eq_false hx1
      have HW' : Hid (∀ i (h : i < l.length), i < k + 1 → 0 ≤ l[i] ∧ l[i] ≤ 1152921504606846976) := hide fun i h hi => by
        by_cases e : i = k
        · subst e; omega
        · exact HW.out i h (by omega)
      clear hx0 hx1
      generalize l[k] = x at *
      go_wp2
      go_round
      case rel => exact ⟨k + 1, by omega, by go_num, HW'⟩
      case measure => simp [intOf]; omega
    · have e : k = l.length := by omega
      subst e
      have HW2 : Hid (wOk l) := hide fun i h => HW.out i h h
      have E := ER.out HW2.out
      have E2 := hide E
      clear HW E
      go_wp2
      go_loop [5, 6] (fun v5 v6 => ∃ k : Nat, k ≤ l.length ∧ v6 = .int .i64 k ∧ v5 = .int .i64 (preS l k) ∧ preS l k ≤ 1152921504606846976) (fun _ v6 => l.length - (intOf v6).toNat)
      case atStart => exact ⟨0, Nat.zero_le _, rfl, by rw [preS_zero], by rw [preS_zero]; decide⟩
      case round =>
        obtain ⟨k, hk, rfl, rfl, hp1⟩ := hrel
        by_cases hlt : k < l.length
        · obtain ⟨b, off, rfl, hbl, hat⟩ := HL.out.2 (by omega)
          have c0 := hat k hlt
          clear hat
          obtain ⟨x0, x1⟩ := HW2.out k hlt
          have p0 := (preS_bd HW2.out k (by omega)).1
          have eS := hide (preS_succ l k hlt)
          have BG := hide (fun h => preS_big HW2.out (show k + 1 ≤ l.length by omega) h)
          by_cases hc : 1152921504606846976 < preS l k + l[k]
          · have d2 : decide (1152921504606846976 < preS l k + l[k]) = true := decide_eq_true hc
            have H : Hid (meE l = 5) := hide (by rw [E2.out, if_pos (BG.out (by rw [eS.out]; exact hc))])
            clear hc
            generalize preS l k = p at *
            generalize l[k] = x at *
            go_wp2
            exact bodyPost_ret (v := .tuple #[.slice none 0 0, .int .i64 5]) (by simp [results, Tryd.results10, go_sem]) rfl (MePost.err (Below.refl _ _) H.out (by decide))
          · have d2 : decide (1152921504606846976 < preS l k + l[k]) = false := decide_eq_false hc
            clear BG
            generalize preS l k = p at *
            generalize l[k] = x at *
            go_wp2
            go_round
            case rel => exact ⟨k + 1, by omega, by go_num, by rw [eS.out], by rw [eS.out]; omega⟩
            case measure => simp [intOf]; omega
        · have e : k = l.length := by omega
          subst e
          rw [preS_all] at hp1 ⊢
          have E : meE l = 0 := by rw [E2.out, if_neg (by omega)]
          have hp := sum_nonneg HW2.out
          obtain ⟨SS, hSS⟩ : ∃ SS : Nat, l.sum = (SS : Int) := ⟨l.sum.toNat, by omega⟩
          have hS1 : SS ≤ 1152921504606846976 := by omega
          obtain ⟨T, hT⟩ : ∃ T : Nat, T = SS / 2000000 := ⟨_, rfl⟩
          have hT1 : T ≤ 1125899906842624 := by omega
          have hT2 : T ≤ 1152921504606846976 := by omega
          have eT : (SS : Int).tdiv 2000000 = (T : Int) := by rw [Int.tdiv_eq_ediv_of_nonneg (by omega), hT]; rfl
          have eT2 := IntWalk.i64_in ((SS : Int).tdiv 2000000) (by rw [eT]; omega)
          rw [eT] at eT2
          have eL0 : meL l = shK (l.sum / 2000000) l.sum l l.length := by unfold meL; rw [E, if_pos rfl]
          have eL : meL l = shK (T : Int) (SS : Int) l l.length := by rw [eL0, hSS, hT]; rfl
          have hS2 : (SS : Int) ≤ 1152921504606846976 := by omega
          have hbd : ∀ i (h : i < l.length), (0 : Int) ≤ qK (T : Int) (SS : Int) l (i + 1) - qK (T : Int) (SS : Int) l i ∧ qK (T : Int) (SS : Int) l (i + 1) - qK (T : Int) (SS : Int) l i ≤ 1152921504606846976 := fun i h => by
            by_cases hz : SS = 0
            · subst hz; unfold qK; simp
            · exact me_bd (by omega) (by omega) (by omega) HW2.out (by omega) i h
          have HE := hide (And.intro E (And.intro hSS (And.intro hS1 (And.intro hT1 (And.intro hT2 (And.intro eL hbd))))))
          clear E hp hp1 hS1 hT hT1 hT2 eL0 eL hbd E2
          rw [hSS]
          by_cases hz : SS = 0
          · have d3 : decide (0 < (SS : Int)) = false := decide_eq_false (by omega)
            have Q0 : Hid (∀ k, qK (T : Int) (SS : Int) l k = 0) := hide fun k => by subst hz; unfold qK; simp
            have hP : Hid (∀ k, k ≤ l.length → preS l k = 0) := hide fun k hk => by
              have a := (preS_bd HW2.out k hk).1
              have b := preS_mono HW2.out hk (Nat.le_refl _)
              rw [preS_all, HE.out.2.1] at b
              omega
            have d30 : ¬ 0 < SS := by omega
            clear hSS hz eT eT2
            go_wp2
            go_loopw [7, 8, 9, 10] (fun v7 v8 v9 v10 wr => ∃ k : Nat, k ≤ l.length ∧ v10 = .int .i64 k ∧ v9 = .int .i64 0 ∧ v8 = .int .i64 0 ∧
              Hid (Below w.heap.size w wr ∧ wr.ownsRow w.heap.size 3 1 v7 k ((shK (T : Int) (SS : Int) l k).map (Value.int .i64)))) (fun _ _ _ v10 _ => l.length - (intOf v10).toNat)
            case atStart => exact ⟨0, Nat.zero_le _, rfl, rfl, rfl, hide ⟨Below.refl _ _, World.ownsRow_nil _ _ _ _⟩⟩
            case round =>
              obtain ⟨k, hk, rfl, rfl, rfl, HR⟩ := hrel
              by_cases hlt : k < l.length
              · obtain ⟨b, off, rfl, hbl, hat⟩ := (HL.out.below HR.out.1).2 (by omega)
                have c0 := hat k hlt
                have x0 : l[k] = 0 := by
                  have a := hP.out (k + 1) (by omega)
                  have b := hP.out k (by omega)
                  have c := preS_succ l k hlt
                  omega
                rw [x0] at c0
                have ES : Hid (shK (T : Int) (SS : Int) l (k + 1) = shK (T : Int) (SS : Int) l k ++ [0]) := hide (by rw [shK, Q0.out, Q0.out]; rfl)
                clear hat x0
                generalize hR : shK (T : Int) (SS : Int) l k = R at *
                clear hR
                generalize wr = W at *
                go_wp2_with (at_builtin; refine wpList_append_own _ rfl _ _ 22 rfl w.heap.size 3 i0 (.int .i64 0) 1 8 Tryd.underlying22 hi0 hz0 hz1 hz2 rfl (by decide) _ k (R.map (Value.int .i64)) rfl (HR.out.2.alloc (.cells #[.int .i64 0] 3)) ⟨W.heap.size, 0, none⟩ 1 1 [.int .i64 0] rfl rfl (World.news_of_block (cs := #[.int .i64 0]) (t := 3) (fr := (0, 0)) (heap_alloc_new W _)) (by simp [Value.oneCell']) (by unfold maxLen; omega) (by omega) (by have := HR.out.1.size; simp; omega) ?_; intro v' w4 hown4 hgrow _)
                have B5 : Below w.heap.size w w4 := (HR.out.1.alloc HR.out.1.size (.cells #[.int .i64 0] 3)).grown hgrow (by have := HR.out.1.size; simp; omega) (fun k hk => ((HR.out.2.alloc (.cells #[.int .i64 0] 3)).lt k hk).1)
                have B4 := hide (And.intro B5 hown4)
                clear B5 hown4 hgrow
                go_roundw
                case rel => exact ⟨k + 1, by omega, by go_num, rfl, rfl, hide ⟨B4.out.1, by rw [ES.out, List.map_append]; exact B4.out.2⟩⟩
                case measure => simp [intOf]; omega
              · have e : k = l.length := by omega
                subst e
                obtain ⟨E, e1, e2, e3, e4, e5, e6⟩ := HE.out
                have hll := shK_length (T : Int) (SS : Int) l l.length
                obtain ⟨A', cp, rfl, hsl⟩ := IntSl.of_row HR.out.2 (by omega) (fun i h => by
                  have a := shK_at (T : Int) (SS : Int) l l.length i (by rw [hll] at h; exact h)
                  rw [List.getElem?_eq_getElem h] at a
                  injection a with a
                  rw [a]
                  have := e6 i (by rw [hll] at h; exact h)
                  omega)
                have hcp : l.length ≤ cp := by
                  have := row_capM HR.out.2
                  omega
                have FIN := hide (And.intro HR.out.1 (And.intro hsl (And.intro hcp (And.intro e5 (And.intro E hll)))))
                clear hsl hcp E e1 e2 e3 e4 e5 e6 hll
                go_wp2
                exact bodyPost_ret (v := .tuple #[.slice A' (shK (T : Int) (SS : Int) l l.length).length cp, .int .i64 0]) (by simp [results, Tryd.results10, go_sem]) rfl
                  ⟨FIN.out.1, A', cp, by rw [FIN.out.2.2.2.1, FIN.out.2.2.2.2.1], by rw [FIN.out.2.2.2.1]; exact FIN.out.2.1, by rw [FIN.out.2.2.2.1, FIN.out.2.2.2.2.2]; exact FIN.out.2.2.1⟩
          · have hS0 : 0 < SS := by omega
            have d3 : decide (0 < (SS : Int)) = true := decide_eq_true (by omega)
            have ST := hide (fun k (hk : k < l.length) => share_step HE.out.2.2.2.2.1 HE.out.2.1 hS0 HE.out.2.2.1 HW2.out k hk)
            clear hSS hz
            go_wp2
            go_loopw [7, 8, 9, 10] (fun v7 v8 v9 v10 wr => ∃ k : Nat, k ≤ l.length ∧ v10 = .int .i64 k ∧ v9 = .int .i64 (preS l k) ∧ v8 = .int .i64 (qK (T : Int) (SS : Int) l k) ∧
              Hid (Below w.heap.size w wr ∧ wr.ownsRow w.heap.size 3 1 v7 k ((shK (T : Int) (SS : Int) l k).map (Value.int .i64)))) (fun _ _ _ v10 _ => l.length - (intOf v10).toNat)
            case atStart => exact ⟨0, Nat.zero_le _, rfl, by rw [preS_zero], by rw [qK_zero], hide ⟨Below.refl _ _, World.ownsRow_nil _ _ _ _⟩⟩
            case round =>
              obtain ⟨k, hk, rfl, rfl, rfl, HR⟩ := hrel
              by_cases hlt : k < l.length
              · obtain ⟨b, off, rfl, hbl, hat⟩ := (HL.out.below HR.out.1).2 (by omega)
                have c0 := hat k hlt
                obtain ⟨F, Q, f1, f2, f3, f4, f5, f6, f7, f8, f9, f10, f11⟩ := ST.out k hlt
                have PA := hide (fun W => part_any T (F : Int) (SS : Int) W HE.out.2.2.2.1 (by omega) (by omega) (by omega) hS2)
                have eQ : (T : Int) * (F : Int) / (SS : Int) = (Q : Int) := by rw [← f6]; unfold qK; rw [f1]
                rw [eQ] at PA
                have eF : preS l k + l[k] = (F : Int) := by rw [← f1, preS_succ l k hlt]
                have EQ := hide (And.intro f1 f6)
                have b2 : (F : Int) ≤ 1152921504606846976 := by omega
                have b3 : (Q : Int) ≤ 1152921504606846976 := by omega
                have ES : Hid (shK (T : Int) (SS : Int) l (k + 1) = shK (T : Int) (SS : Int) l k ++ [(Q : Int) - qK (T : Int) (SS : Int) l k]) := hide (by rw [← f6]; rfl)
                clear hat f1 f2 f3 f4 f5 f6 f7 eQ
                generalize preS l k = p at *
                generalize qK (T : Int) (SS : Int) l k = q at *
                generalize hR : shK (T : Int) (SS : Int) l k = R at *
                generalize l[k] = x at *
                clear hR
                go_wp2_with fail
                refine (PA.out _).mono ?_
                rintro e w' ⟨rfl, rfl⟩
                generalize wr = W at *
                go_wp2_with (at_builtin; refine wpList_append_own _ rfl _ _ 22 rfl w.heap.size 3 i0 (.int .i64 0) 1 8 Tryd.underlying22 hi0 hz0 hz1 hz2 rfl (by decide) _ k (R.map (Value.int .i64)) rfl (HR.out.2.alloc (.cells #[.int .i64 ((Q : Int) - q)] 3)) ⟨W.heap.size, 0, none⟩ 1 1 [.int .i64 ((Q : Int) - q)] rfl rfl (World.news_of_block (cs := #[.int .i64 ((Q : Int) - q)]) (t := 3) (fr := (0, 0)) (heap_alloc_new W _)) (by simp [Value.oneCell']) (by unfold maxLen; omega) (by omega) (by have := HR.out.1.size; simp; omega) ?_; intro v' w4 hown4 hgrow _)
                have B5 : Below w.heap.size w w4 := (HR.out.1.alloc HR.out.1.size (.cells #[.int .i64 ((Q : Int) - q)] 3)).grown hgrow (by have := HR.out.1.size; simp; omega) (fun k hk => ((HR.out.2.alloc (.cells #[.int .i64 ((Q : Int) - q)] 3)).lt k hk).1)
                have B4 := hide (And.intro B5 hown4)
                clear B5 hown4 hgrow
                go_roundw
                case rel => exact ⟨k + 1, by omega, by go_num, by rw [EQ.out.1], by rw [EQ.out.2], hide ⟨B4.out.1, by rw [ES.out, List.map_append]; exact B4.out.2⟩⟩
                case measure => simp [intOf]; omega
              · have e : k = l.length := by omega
                subst e
                obtain ⟨E, e1, e2, e3, e4, e5, e6⟩ := HE.out
                have hll := shK_length (T : Int) (SS : Int) l l.length
                obtain ⟨A', cp, rfl, hsl⟩ := IntSl.of_row HR.out.2 (by omega) (fun i h => by
                  have a := shK_at (T : Int) (SS : Int) l l.length i (by rw [hll] at h; exact h)
                  rw [List.getElem?_eq_getElem h] at a
                  injection a with a
                  rw [a]
                  have := e6 i (by rw [hll] at h; exact h)
                  omega)
                have hcp : l.length ≤ cp := by
                  have := row_capM HR.out.2
                  omega
                have FIN := hide (And.intro HR.out.1 (And.intro hsl (And.intro hcp (And.intro e5 (And.intro E hll)))))
                clear hsl hcp E e1 e2 e3 e4 e5 e6 hll
                go_wp2
                exact bodyPost_ret (v := .tuple #[.slice A' (shK (T : Int) (SS : Int) l l.length).length cp, .int .i64 0]) (by simp [results, Tryd.results10, go_sem]) rfl
                  ⟨FIN.out.1, A', cp, by rw [FIN.out.2.2.2.1, FIN.out.2.2.2.2.1], by rw [FIN.out.2.2.2.1]; exact FIN.out.2.1, by rw [FIN.out.2.2.2.1, FIN.out.2.2.2.2.2]; exact FIN.out.2.2.1⟩
end Go.Proofs.YtaaadejamjbcbaaDoor
