/- The program's Metres: the square metres, or the error; nothing that was there is turned. -/
import Derived.Test.YtaaadejamjbcbaaDoorMeFn
import Derived.Test.YtaaadejamjbcbaaDoorCls
import Derived.Test.YtaaadejamjbcbaaDoorMkRow
namespace Go.Proofs.YtaaadejamjbcbaaDoor
open Go.RowKit

theorem int_info15 : (Tryd.prog.info? 3).map (fun i => (i.zero, i.size, i.bytes)) = some (some (.int .i64 0), 1, 8) := by kernel_rfl
theorem below_dnM {B : Nat} {a w : World} (h : Below B a w) (n : Nat) : Below B a (w.drewN n) := ⟨h.os, h.tape, h.output, h.size, h.block⟩
def MePost (l : List Int) (w : World) (e : Ending) (w' : World) : Prop :=
  Below w.heap.size w w' ∧ ∃ (A : Option Addr) (cap : Nat), e = .returned (.tuple #[.slice A (meL l).length cap, .int .i64 (meE l)]) ∧ IntSl w' A (meL l) ∧ (meL l).length ≤ cap
theorem MePost.err {l : List Int} {w w' : World} {er : Int} (hb : Below w.heap.size w w') (he : meE l = er) (h0 : er ≠ 0) :
    MePost l w (.returned (.tuple #[.slice none 0 0, .int .i64 er])) w' := by
  have e1 : meL l = [] := by unfold meL; rw [he, if_neg h0]
  exact ⟨hb, none, 0, by rw [e1, he]; rfl, by rw [e1]; exact IntSl.nil _ _, by rw [e1]; exact Nat.le_refl _⟩
theorem me_bd {t S : Int} {l : List Int} (ht : 0 ≤ t) (ht' : t ≤ 1152921504606846976) (hS : 0 < S) (hw : wOk l) (hs : l.sum ≤ S) (i : Nat) (h : i < l.length) : 0 ≤ qK t S l (i + 1) - qK t S l i ∧ qK t S l (i + 1) - qK t S l i ≤ 1152921504606846976 := by
  have b1 := qK_bd ht hS hw hs (i + 1) (by omega)
  have b0 := qK_bd ht hS hw hs i (by omega)
  have m := qK_mono ht hS hw (show i ≤ i + 1 by omega) (by omega)
  omega
theorem shK_map (t S : Int) (l : List Int) : ∀ k, shK t S l k = (List.range k).map fun i => qK t S l (i + 1) - qK t S l i
  | 0 => rfl
  | k + 1 => by rw [shK, shK_map t S l k, List.range_succ, List.map_append]; rfl
def outF (t S : Int) (l : List Int) (k j : Nat) : Value := if j < k then .int .i64 (qK t S l (j + 1) - qK t S l j) else .int .i64 0
theorem outF_set (t S : Int) (l : List Int) (k n : Nat) : (mkRow n (outF t S l k)).setIfInBounds k (.int .i64 (qK t S l (k + 1) - qK t S l k)) = mkRow n (outF t S l (k + 1)) := by
  rw [mkRow_set]
  refine mkRow_congr fun i _ => ?_
  unfold outF
  by_cases h : i = k
  · subst h; rw [if_pos rfl, if_pos (by omega)]
  · rw [if_neg h]
    by_cases h2 : i < k
    · rw [if_pos h2, if_pos (by omega)]
    · rw [if_neg h2, if_neg (by omega)]
set_option maxRecDepth 100000 in
set_option maxHeartbeats 4000000 in
theorem metres_any (l : List Int) (A : Option Addr) (cap : Nat) (w : World) (hl : IntSl w A l) :
    Calls Tryd.prog 9 #[.slice A l.length cap] w (MePost l w) := by
  have hlen : l.length ≤ 9223372036854775807 := hl.1.1
  have HL := hide hl
  clear hl
  by_cases h1 : 1000 < l.length
  · have H := hide (meE_full h1)
    have c1 : decide ((1000 : Int) < (l.length : Int)) = true := decide_eq_true (by omega)
    clear h1
    go_enter Tryd.func9, Tryd.ntmps9
    go_wp2
    exact bodyPost_ret (v := .tuple #[.slice none 0 0, .int .i64 4]) (by simp [results, Tryd.results9, go_sem]) rfl (MePost.err (Below.refl _ _) H.out (by decide))
  have h1' : l.length ≤ 1000 := by omega
  have c1 : decide ((1000 : Int) < (l.length : Int)) = false := decide_eq_false (by omega)
  have EW := hide (fun k (hk : k < l.length) hx => meE_range h1' hk hx)
  have ER := hide (fun hw => meE_rest h1' hw)
  have Z := hide (cap_zero l)
  obtain ⟨i0, hi0, hz0, hz1, hz2⟩ := info_parts int_info15
  clear h1
  go_enter Tryd.func9, Tryd.ntmps9
  go_wp2
  go_loop [4, 5, 20] (fun v4 v5 v20 => ∃ k : Nat, k ≤ l.length ∧ v20 = .int .i64 k ∧ v4 = .int .i64 (capS l k) ∧ v5 = .bool (bigS l k) ∧ Hid (∀ i (h : i < l.length), i < k → 0 ≤ l[i] ∧ l[i] ≤ 1152921504606846976)) (fun _ _ v20 => l.length - (intOf v20).toNat)
  case atStart => exact ⟨0, Nat.zero_le _, rfl, by rw [Z.out.1], by rw [Z.out.2], hide (fun _ _ h => by omega)⟩
  case round =>
    obtain ⟨k, hk, rfl, rfl, rfl, HW⟩ := hrel
    by_cases hlt : k < l.length
    · obtain ⟨b, off, rfl, hbl, hat⟩ := HL.out.2 (by omega)
      have c0 := hat k hlt
      clear hat
      have W1 := hide (fun W => luwithin_any l[k] 1152921504606846976 W)
      rcases Bool.eq_false_or_eq_true (inB l[k] 1152921504606846976) with hx | hx
      · have hx' := inB_iff.1 hx
        rw [hx] at W1
        have HW' : Hid (∀ i (h : i < l.length), i < k + 1 → 0 ≤ l[i] ∧ l[i] ≤ 1152921504606846976) := hide fun i h hi => by
          by_cases e : i = k
          · subst e; exact hx'
          · exact HW.out i h (by omega)
        have CS : 0 ≤ capS l k ∧ capS l k ≤ 1152921504606846976 ∧ (1152921504606846976 < capS l k + l[k] → capS l (k + 1) = 1152921504606846976 ∧ bigS l (k + 1) = true) ∧ (capS l k + l[k] ≤ 1152921504606846976 → capS l (k + 1) = capS l k + l[k] ∧ bigS l (k + 1) = bigS l k) := cap_stepK HW'.out hlt
        obtain ⟨s0, s1, s2, s3⟩ := CS
        obtain ⟨x0, x1⟩ := hx'
        clear hx
        generalize capS l k = s at *
        generalize bigS l k = g at *
        generalize l[k] = x at *
        by_cases hc : 1152921504606846976 < s + x
        · have d2 : decide (1152921504606846976 < s + x) = true := decide_eq_true hc
          have S2 := hide (s2 hc)
          clear s2 s3 hc
          go_wp2_with fail
          refine (W1.out _).mono ?_
          rintro e w' ⟨rfl, rfl⟩
          go_wp2
          go_round
          case rel => exact ⟨k + 1, by omega, by go_num, by rw [S2.out.1], by rw [S2.out.2], HW'⟩
          case measure => simp [intOf]; omega
        · have d2 : decide (1152921504606846976 < s + x) = false := decide_eq_false hc
          have S2 := hide (s3 (by omega))
          clear s2 s3 hc
          go_wp2_with fail
          refine (W1.out _).mono ?_
          rintro e w' ⟨rfl, rfl⟩
          go_wp2
          go_round
          case rel => exact ⟨k + 1, by omega, by go_num, by rw [S2.out.1], by rw [S2.out.2], HW'⟩
          case measure => simp [intOf]; omega
      · have H := hide (EW.out k hlt (fun h => by have := inB_iff.2 h; rw [hx] at this; cases this))
        rw [hx] at W1
        clear hx
        generalize l[k] = x at *
        go_wp2_with fail
        refine (W1.out _).mono ?_
        rintro e w' ⟨rfl, rfl⟩
        go_wp2
        exact bodyPost_ret (v := .tuple #[.slice none 0 0, .int .i64 2]) (by simp [results, Tryd.results9, go_sem]) rfl (MePost.err (Below.refl _ _) H.out (by decide))
    · have e : k = l.length := by omega
      subst e
      have HW2 : Hid (wOk l) := hide fun i h => HW.out i h h
      have CA := cap_all (l := l)
      have E := ER.out HW2.out
      rw [CA.1, CA.2]
      clear HW CA
      by_cases hb : 1152921504606846976 < l.sum
      · rw [if_pos hb] at E
        rw [if_pos hb, decide_eq_true hb]
        have H := hide E
        clear E hb
        go_wp2
        exact bodyPost_ret (v := .tuple #[.slice none 0 0, .int .i64 5]) (by simp [results, Tryd.results9, go_sem]) rfl (MePost.err (Below.refl _ _) H.out (by decide))
      rw [if_neg hb] at E
      rw [if_neg hb, decide_eq_false hb]
      have hp := sum_nonneg HW2.out
      obtain ⟨SS, hSS⟩ : ∃ SS : Nat, l.sum = (SS : Int) := ⟨l.sum.toNat, by omega⟩
      have hS1 : SS ≤ 1152921504606846976 := by omega
      have MK : ∀ W : World, (Instr.makeSlice 22 (.int .i64 (l.length : Int)) (.int .i64 (l.length : Int))).run Tryd.prog W = .ok (.slice (some ⟨W.heap.size, 0, none⟩) l.length l.length) (W.alloc (.cells (mkRow l.length (outF ((SS / 2000000 : Nat) : Int) (SS : Int) l 0)) 3)) := fun W => by
        have := run_make_rowN (P := Tryd.prog) 22 3 i0 (.int .i64 0) Tryd.underlying22 hi0 hz0 .i64 .i64 l.length l.length (by omega) (by rw [hz2]; omega) (by omega) W
        rw [hz1, Nat.mul_one] at this
        rw [show mkRow l.length (outF ((SS / 2000000 : Nat) : Int) (SS : Int) l 0) = madeCells (Value.int .i64 0).cells l.length from (mkRow_made l.length (.int .i64 0)).symm]
        exact this
      have X := (Own.start w).alloc (mkRow l.length (outF ((SS / 2000000 : Nat) : Int) (SS : Int) l 0)) 3
      have eL0 : meL l = shK (l.sum / 2000000) l.sum l l.length := by unfold meL; rw [E, if_pos rfl]
      by_cases hz : SS = 0
      · subst hz
        rw [hSS]
        have eL : meL l = (List.range l.length).map (fun _ => (0 : Int)) := by
          rw [eL0, hSS, show ((0 : Nat) : Int) / 2000000 = 0 by decide, show ((0 : Nat) : Int) = 0 from rfl, shK_none]
          exact (by simp [List.map_const'])
        have FIN := hide (And.intro X (And.intro eL E))
        clear X eL eL0 E hb hp hSS
        go_wp2
        refine bodyPost_ret (v := .tuple #[.slice (some ⟨w.heap.size, 0, none⟩) l.length l.length, .int .i64 0]) (by simp [results, Tryd.results9, go_sem]) rfl ?_
        obtain ⟨Y, eL, E⟩ := FIN.out
        refine ⟨Y.1, some ⟨w.heap.size, 0, none⟩, l.length, by rw [eL, E]; simp, ?_, by rw [eL]; simp⟩
        rw [eL]
        exact IntSl.of_blk (t := 3) (f := fun _ => 0) (Y.2 _ (List.mem_cons_self ..)) (by omega) (fun i hi => by omega)
      have hS0 : 0 < SS := by omega
      have d3 : ((SS : Int) == 0) = false := by simp; omega
      have hS2 : (SS : Int) ≤ 1152921504606846976 := by omega
      obtain ⟨T, hT⟩ : ∃ T : Nat, T = SS / 2000000 := ⟨_, rfl⟩
      have hT1 : T ≤ 1152921504606846976 := by omega
      have eT : (SS : Int).tdiv 2000000 = (T : Int) := by rw [Int.tdiv_eq_ediv_of_nonneg (by omega), hT]; rfl
      have eT2 := IntWalk.i64_in ((SS : Int).tdiv 2000000) (by rw [eT]; omega)
      rw [eT] at eT2
      rw [← hT] at MK X
      have ST := hide (fun k (hk : k < l.length) => share_step hT1 hSS hS0 hS1 HW2.out k hk)
      have HE := hide (And.intro E (And.intro hSS (And.intro hS0 (And.intro hS1 (And.intro hT (And.intro hT1 eL0))))))
      rw [hSS]
      clear E hb hp hSS hS1 hT hT1 eL0
      have XH := hide X
      clear X
      go_wp2
      clear MK eT eT2
      go_loopw [10, 11, 44] (fun v10 v11 v44 wr => ∃ k : Nat, k ≤ l.length ∧ v44 = .int .i64 k ∧ v11 = .int .i64 (preS l k) ∧ v10 = .int .i64 (qK (T : Int) (SS : Int) l k) ∧
        Hid (Own w wr [(w.heap.size, 3, mkRow l.length (outF (T : Int) (SS : Int) l k))])) (fun _ _ v44 _ => l.length - (intOf v44).toNat)
      case atStart => exact ⟨0, Nat.zero_le _, rfl, by rw [preS_zero], by rw [qK_zero], XH⟩
      case round =>
        obtain ⟨k, hk, rfl, rfl, rfl, HR⟩ := hrel
        by_cases hlt : k < l.length
        · obtain ⟨b, off, rfl, hbl, hat⟩ := (HL.out.below HR.out.1).2 (by omega)
          have c0 := hat k hlt
          obtain ⟨F, Q, f1, f2, f3, f4, f5, f6, f7, f8, f9, f10, f11⟩ := ST.out k hlt
          have PA := hide (fun W => lpart_any T F SS W HE.out.2.2.2.2.2.1 f2 hS0 HE.out.2.2.2.1)
          have eQ : T * F / SS = Q := by
            have : (T : Int) * (F : Int) / (SS : Int) = (Q : Int) := by rw [← f6]; unfold qK; rw [f1]
            exact_mod_cast this
          rw [eQ] at PA
          have eF : preS l k + l[k] = (F : Int) := by rw [← f1, preS_succ l k hlt]
          have EQ := hide (And.intro f1 f6)
          have b2 : (F : Int) ≤ 1152921504606846976 := by omega
          have b3 : (Q : Int) ≤ 1152921504606846976 := by omega
          have cz := (HR.out.r1.1 k).trans (mkRow_at l.length (outF (T : Int) (SS : Int) l k) hlt)
          rw [show outF (T : Int) (SS : Int) l k k = .int .i64 0 by simp [outF]] at cz
          have fz := HR.out.r1.2.1 k
          have hlw := HR.out.r1.2.2
          have STW := hide (fun (wr' : World) (h : Own w wr' [(w.heap.size, 3, mkRow l.length (outF (T : Int) (SS : Int) l k))]) => (by
            have := h.set0 (Nat.le_refl _) (by intro y hy; simp at hy) k (.int .i64 (qK (T : Int) (SS : Int) l (k + 1) - qK (T : Int) (SS : Int) l k))
            rw [outF_set] at this
            rw [f6] at this
            exact this : Own w (wr'.setCell ⟨w.heap.size, k, none⟩ (.int .i64 ((Q : Int) - qK (T : Int) (SS : Int) l k))) [(w.heap.size, 3, mkRow l.length (outF (T : Int) (SS : Int) l (k + 1)))]))
          clear hat f1 f2 f3 f4 f5 f6 f7 eQ
          generalize preS l k = p at *
          generalize qK (T : Int) (SS : Int) l k = q at *
          generalize l[k] = x at *
          go_wp2_with fail
          refine (PA.out _).mono ?_
          rintro e w' ⟨rfl, m, rfl⟩
          have HR2 := hide (STW.out _ (show Own w (wr.drewN m) _ from ⟨below_dnM HR.out.1 m, fun x hx => (HR.out.2 x hx).drewN m⟩))
          have cz2 : (wr.drewN m).cell? ⟨w.heap.size, k, none⟩ = some (.int .i64 0) := cz
          have fz2 : (wr.drewN m).frozen? ⟨w.heap.size, k, none⟩ = false := fz
          clear STW cz fz HR c0
          generalize World.drewN _ m = W at *
          go_wp2
          go_roundw
          case rel => exact ⟨k + 1, by omega, by go_num, by rw [EQ.out.1], by rw [EQ.out.2], HR2⟩
          case measure => simp [intOf]; omega
        · have e : k = l.length := by omega
          subst e
          obtain ⟨E, e1, e2, e3, e4, e5, e6⟩ := HE.out
          have eS : l.sum / 2000000 = (T : Int) := by rw [e1, e4]; rfl
          have eL : meL l = (List.range l.length).map fun i => qK (T : Int) (SS : Int) l (i + 1) - qK (T : Int) (SS : Int) l i := by rw [e6, eS, e1, shK_map]
          have hbd : ∀ i, i < l.length → -9223372036854775808 ≤ qK (T : Int) (SS : Int) l (i + 1) - qK (T : Int) (SS : Int) l i ∧ qK (T : Int) (SS : Int) l (i + 1) - qK (T : Int) (SS : Int) l i ≤ 9223372036854775807 := fun i h => by
            have := me_bd (t := (T : Int)) (S := (SS : Int)) (by omega) (by omega) (by omega) HW2.out (by omega) i h
            omega
          have B := HR.out.2 _ (List.mem_cons_self ..)
          have LB : IntSl wr (some ⟨w.heap.size, 0, none⟩) ((List.range l.length).map fun i => qK (T : Int) (SS : Int) l (i + 1) - qK (T : Int) (SS : Int) l i) := by
            refine IntSl.of_blk (t := 3) (f := fun i => qK (T : Int) (SS : Int) l (i + 1) - qK (T : Int) (SS : Int) l i) ?_ (by omega) hbd
            rw [mkRow_congr (g := outF (T : Int) (SS : Int) l l.length) (fun i hi => by simp [outF, hi])]
            exact B
          have FIN := hide (And.intro HR.out.1 (And.intro LB (And.intro eL E)))
          clear LB B hbd eL E e1 e2 e3 e4 e5 e6 eS
          go_wp2
          exact bodyPost_ret (v := .tuple #[.slice (some ⟨w.heap.size, 0, none⟩) l.length l.length, .int .i64 0]) (by simp [results, Tryd.results9, go_sem]) rfl
            ⟨FIN.out.1, some ⟨w.heap.size, 0, none⟩, l.length, by rw [FIN.out.2.2.1, FIN.out.2.2.2]; simp, by rw [FIN.out.2.2.1]; exact FIN.out.2.1, by rw [FIN.out.2.2.1]; simp⟩
end Go.Proofs.YtaaadejamjbcbaaDoor
