/- Parts of one proof, joined: The program's Metres: the square metres, or the error; nothing that was there is turned. The examples of chapter 15: awake returns true; nothing that was there is turned. The law LanduseAreas returns true for every surface, inlets and number of classes; nothing that was there is turned (printed by gen_arl.py). What the proofs of rows with listed variables import, under one name. Surfaces as arguments: what a reading of them gives. Slices of integers as arguments: what a reading of them gives. Texts in rows: what is laid and the world's shape give what the texts' functions read; the wrap of a row that hands the world's shape on. -/
import Derived.Test.YtaaadejamjbcbaaGreatDoorPkLanduseAreas21
import Derived.Test.YtaaadejamjbcbaaGreatDoorPkLanduseAreas18
import Derived.Test.YtaaadejamjbcbaaGreatDoorPkLanduseAreas2
import Derived.Test.YtaaadejamjbcbaaGreatDoorPkLanduseAreas19
import Derived.Test.YtaaadejamjbcbaaGreatDoorPkLanduseAreas3
import Derived.Test.YtaaadejamjbcbaaGreatDoorPkLanduseAreas11
import Derived.Test.YtaaadejamjbcbaaGreatDoorPkLanduseAreas12
import Derived.Test.YtaaadejamjbcbaaGreatDoorPkLanduseAreas17
import Derived.Test.YtaaadejamjbcbaaGreatDoorPkLanduseAreas4
import Derived.ProofKit
import Derived.LaidMore
import Derived.OpenShut
import Derived.Stop.Joined
import Derived.SevenTiedAt
import Derived.Test.YtaaadejamjbcbaaGreatDoorPkLanduseAreas5
import Derived.HandedShaped
import Derived.LaidLaws
namespace Go.Proofs.YtaaadejamjbcbaaGreatDoor
open Go.RowKit

theorem int_info15 : (Tryz.prog.info? 3).map (fun i => (i.zero, i.size, i.bytes)) = some (some (.int .i64 0), 1, 8) := by kernel_rfl
theorem below_dnM {B : Nat} {a w : World} (h : Below B a w) (n : Nat) : Below B a (w.drewN n) := ⟨h.os, h.tape, h.output, h.size, h.block⟩
def MePost (l : List Int) (w : World) (e : Ending) (w' : World) : Prop :=
  Below w.heap.size w w' ∧ ∃ (A : Option Addr) (cap : Nat), e = .returned (.tuple #[.slice A (meL l).length cap, .int .i64 (meE l)]) ∧ IntSl w' A (meL l) ∧ (meL l).length ≤ cap
theorem MePost.err {l : List Int} {w w' : World} {er : Int} (hb : Below w.heap.size w w') (he : meE l = er) (h0 : er ≠ 0) :
    MePost l w (.returned (.tuple #[.slice none 0 0, .int .i64 er])) w' := by
  have e1 : meL l = [] := by unfold meL; rw [he, if_neg h0]
  exact ⟨hb, none, 0, by rw [e1, he]; rfl, by rw [e1]; exact IntSl.nil _ _, by rw [e1]; exact Nat.le_refl _⟩
theorem me_bd {t S : Int} {l : List Int} (ht : 0 ≤ t) (ht' : t ≤ 1152921504606846976) (hS : 0 < S) (hw : wOk l) (hs : l.sum ≤ S) (i : Nat) (h : i < l.length) : 0 ≤ qK t S l (i + 1) - qK t S l i ∧ qK t S l (i + 1) - qK t S l i ≤ 1152921504606846976 := by
  have b1 := qK_bd ht hS hw hs (i + 1) (by omega)
  have b0 := qK_bd ht hS hw hs i (by omega)
  have m := qK_mono ht hS hw (show i ≤ i + 1 by omega) (by omega)
  omega
theorem shK_map (t S : Int) (l : List Int) : ∀ k, shK t S l k = (List.range k).map fun i => qK t S l (i + 1) - qK t S l i
  | 0 => rfl
  | k + 1 => by rw [shK, shK_map t S l k, List.range_succ, List.map_append]; rfl
def outF (t S : Int) (l : List Int) (k j : Nat) : Value := if j < k then .int .i64 (qK t S l (j + 1) - qK t S l j) else .int .i64 0
theorem outF_set (t S : Int) (l : List Int) (k n : Nat) : (mkRow n (outF t S l k)).setIfInBounds k (.int .i64 (qK t S l (k + 1) - qK t S l k)) = mkRow n (outF t S l (k + 1)) := by
  rw [mkRow_set]
  refine mkRow_congr fun i _ => ?_
  unfold outF
  by_cases h : i = k
  · subst h; rw [if_pos rfl, if_pos (by omega)]
  · rw [if_neg h]
    by_cases h2 : i < k
    · rw [if_pos h2, if_pos (by omega)]
    · rw [if_neg h2, if_neg (by omega)]
set_option maxRecDepth 100000 in
set_option maxHeartbeats 4000000 in
theorem metres_any (l : List Int) (A : Option Addr) (cap : Nat) (w : World) (hl : IntSl w A l) :
    Calls Tryz.prog 20 #[.slice A l.length cap] w (MePost l w) := by
  have hlen : l.length ≤ 9223372036854775807 := hl.1.1
  have HL := hide hl
  clear hl
  by_cases h1 : 1000 < l.length
  · have H := hide (meE_full h1)
    have c1 : decide ((1000 : Int) < (l.length : Int)) = true := decide_eq_true (by omega)
    clear h1
    go_enter Tryz.func20, Tryz.ntmps20
    go_wp2
    exact bodyPost_ret (v := .tuple #[.slice none 0 0, .int .i64 4]) (by simp [results, Tryz.results20, go_sem]) rfl (MePost.err (Below.refl _ _) H.out (by decide))
  have h1' : l.length ≤ 1000 := by omega
  have c1 : decide ((1000 : Int) < (l.length : Int)) = false := decide_eq_false (by omega)
  have EW := hide (fun k (hk : k < l.length) hx => meE_range h1' hk hx)
  have ER := hide (fun hw => meE_rest h1' hw)
  have Z := hide (cap_zero l)
  obtain ⟨i0, hi0, hz0, hz1, hz2⟩ := info_parts int_info15
  clear h1
  go_enter Tryz.func20, Tryz.ntmps20
  go_wp2
  go_loop [4, 5, 20] (fun v4 v5 v20 => ∃ k : Nat, k ≤ l.length ∧ v20 = .int .i64 k ∧ v4 = .int .i64 (capS l k) ∧ v5 = .bool (bigS l k) ∧ Hid (∀ i (h : i < l.length), i < k → 0 ≤ l[i] ∧ l[i] ≤ 1152921504606846976)) (fun _ _ v20 => l.length - (intOf v20).toNat)
  case atStart => exact ⟨0, Nat.zero_le _, rfl, by rw [Z.out.1], by rw [Z.out.2], hide (fun _ _ h => by omega)⟩
  case round =>
    obtain ⟨k, hk, rfl, rfl, rfl, HW⟩ := hrel
    by_cases hlt : k < l.length
    · obtain ⟨b, off, rfl, hbl, hat⟩ := HL.out.2 (by omega)
      have c0 := hat k hlt
      clear hat
      have W1 := hide (fun W => luwithin_any l[k] 1152921504606846976 W)
      rcases Bool.eq_false_or_eq_true (inB l[k] 1152921504606846976) with hx | hx
      · have hx' := inB_iff.1 hx
        rw [hx] at W1
        have HW' : Hid (∀ i (h : i < l.length), i < k + 1 → 0 ≤ l[i] ∧ l[i] ≤ 1152921504606846976) := hide fun i h hi => by
          by_cases e : i = k
          · subst e; exact hx'
          · exact HW.out i h (by omega)
        have CS : 0 ≤ capS l k ∧ capS l k ≤ 1152921504606846976 ∧ (1152921504606846976 < capS l k + l[k] → capS l (k + 1) = 1152921504606846976 ∧ bigS l (k + 1) = true) ∧ (capS l k + l[k] ≤ 1152921504606846976 → capS l (k + 1) = capS l k + l[k] ∧ bigS l (k + 1) = bigS l k) := cap_stepK HW'.out hlt
        obtain ⟨s0, s1, s2, s3⟩ := CS
        obtain ⟨x0, x1⟩ := hx'
        clear hx
        generalize capS l k = s at *
        generalize bigS l k = g at *
        generalize l[k] = x at *
        by_cases hc : 1152921504606846976 < s + x
        · have d2 : decide (1152921504606846976 < s + x) = true := decide_eq_true hc
          have S2 := hide (s2 hc)
          clear s2 s3 hc
          go_wp2_with fail
          refine (W1.out _).mono ?_
          rintro e w' ⟨rfl, rfl⟩
          go_wp2
          go_round
          case rel => exact ⟨k + 1, by omega, by go_num, by rw [S2.out.1], by rw [S2.out.2], HW'⟩
          case measure => simp [intOf]; omega
        · have d2 : decide (1152921504606846976 < s + x) = false := decide_eq_false hc
          have S2 := hide (s3 (by omega))
          clear s2 s3 hc
          go_wp2_with fail
          refine (W1.out _).mono ?_
          rintro e w' ⟨rfl, rfl⟩
          go_wp2
          go_round
          case rel => exact ⟨k + 1, by omega, by go_num, by rw [S2.out.1], by rw [S2.out.2], HW'⟩
          case measure => simp [intOf]; omega
      · have H := hide (EW.out k hlt (fun h => by have := inB_iff.2 h; rw [hx] at this; cases this))
        rw [hx] at W1
        clear hx
        generalize l[k] = x at *
        go_wp2_with fail
        refine (W1.out _).mono ?_
        rintro e w' ⟨rfl, rfl⟩
        go_wp2
        exact bodyPost_ret (v := .tuple #[.slice none 0 0, .int .i64 2]) (by simp [results, Tryz.results20, go_sem]) rfl (MePost.err (Below.refl _ _) H.out (by decide))
    · have e : k = l.length := by omega
      subst e
      have HW2 : Hid (wOk l) := hide fun i h => HW.out i h h
      have CA := cap_all (l := l)
      have E := ER.out HW2.out
      rw [CA.1, CA.2]
      clear HW CA
      by_cases hb : 1152921504606846976 < l.sum
      · rw [if_pos hb] at E
        rw [if_pos hb, decide_eq_true hb]
        have H := hide E
        clear E hb
        go_wp2
        exact bodyPost_ret (v := .tuple #[.slice none 0 0, .int .i64 5]) (by simp [results, Tryz.results20, go_sem]) rfl (MePost.err (Below.refl _ _) H.out (by decide))
      rw [if_neg hb] at E
      rw [if_neg hb, decide_eq_false hb]
      have hp := sum_nonneg HW2.out
      obtain ⟨SS, hSS⟩ : ∃ SS : Nat, l.sum = (SS : Int) := ⟨l.sum.toNat, by omega⟩
      have hS1 : SS ≤ 1152921504606846976 := by omega
      have MK : ∀ W : World, (Instr.makeSlice 35 (.int .i64 (l.length : Int)) (.int .i64 (l.length : Int))).run Tryz.prog W = .ok (.slice (some ⟨W.heap.size, 0, none⟩) l.length l.length) (W.alloc (.cells (mkRow l.length (outF ((SS / 2000000 : Nat) : Int) (SS : Int) l 0)) 3)) := fun W => by
        have := run_make_rowN (P := Tryz.prog) 35 3 i0 (.int .i64 0) Tryz.underlying35 hi0 hz0 .i64 .i64 l.length l.length (by omega) (by rw [hz2]; omega) (by omega) W
        rw [hz1, Nat.mul_one] at this
        rw [show mkRow l.length (outF ((SS / 2000000 : Nat) : Int) (SS : Int) l 0) = madeCells (Value.int .i64 0).cells l.length from (mkRow_made l.length (.int .i64 0)).symm]
        exact this
      have X := (Own.start w).alloc (mkRow l.length (outF ((SS / 2000000 : Nat) : Int) (SS : Int) l 0)) 3
      have eL0 : meL l = shK (l.sum / 2000000) l.sum l l.length := by unfold meL; rw [E, if_pos rfl]
      by_cases hz : SS = 0
      · subst hz
        rw [hSS]
        have eL : meL l = (List.range l.length).map (fun _ => (0 : Int)) := by
          rw [eL0, hSS, show ((0 : Nat) : Int) / 2000000 = 0 by decide, show ((0 : Nat) : Int) = 0 from rfl, shK_none]
          exact (by simp [List.map_const'])
        have FIN := hide (And.intro X (And.intro eL E))
        clear X eL eL0 E hb hp hSS
        go_wp2
        refine bodyPost_ret (v := .tuple #[.slice (some ⟨w.heap.size, 0, none⟩) l.length l.length, .int .i64 0]) (by simp [results, Tryz.results20, go_sem]) rfl ?_
        obtain ⟨Y, eL, E⟩ := FIN.out
        refine ⟨Y.1, some ⟨w.heap.size, 0, none⟩, l.length, by rw [eL, E]; simp, ?_, by rw [eL]; simp⟩
        rw [eL]
        exact IntSl.of_blk (t := 3) (f := fun _ => 0) (Y.2 _ (List.mem_cons_self ..)) (by omega) (fun i hi => by omega)
      have hS0 : 0 < SS := by omega
      have d3 : ((SS : Int) == 0) = false := by simp; omega
      have hS2 : (SS : Int) ≤ 1152921504606846976 := by omega
      obtain ⟨T, hT⟩ : ∃ T : Nat, T = SS / 2000000 := ⟨_, rfl⟩
      have hT1 : T ≤ 1152921504606846976 := by omega
      have eT : (SS : Int).tdiv 2000000 = (T : Int) := by rw [Int.tdiv_eq_ediv_of_nonneg (by omega), hT]; rfl
      have eT2 := IntWalk.i64_in ((SS : Int).tdiv 2000000) (by rw [eT]; omega)
      rw [eT] at eT2
      rw [← hT] at MK X
      have ST := hide (fun k (hk : k < l.length) => share_step hT1 hSS hS0 hS1 HW2.out k hk)
      have HE := hide (And.intro E (And.intro hSS (And.intro hS0 (And.intro hS1 (And.intro hT (And.intro hT1 eL0))))))
      rw [hSS]
      clear E hb hp hSS hS1 hT hT1 eL0
      have XH := hide X
      clear X
      go_wp2
      clear MK eT eT2
      go_loopw [10, 11, 44] (fun v10 v11 v44 wr => ∃ k : Nat, k ≤ l.length ∧ v44 = .int .i64 k ∧ v11 = .int .i64 (preS l k) ∧ v10 = .int .i64 (qK (T : Int) (SS : Int) l k) ∧
        Hid (Own w wr [(w.heap.size, 3, mkRow l.length (outF (T : Int) (SS : Int) l k))])) (fun _ _ v44 _ => l.length - (intOf v44).toNat)
      case atStart => exact ⟨0, Nat.zero_le _, rfl, by rw [preS_zero], by rw [qK_zero], XH⟩
      case round =>
        obtain ⟨k, hk, rfl, rfl, rfl, HR⟩ := hrel
        by_cases hlt : k < l.length
        · obtain ⟨b, off, rfl, hbl, hat⟩ := (HL.out.below HR.out.1).2 (by omega)
          have c0 := hat k hlt
          obtain ⟨F, Q, f1, f2, f3, f4, f5, f6, f7, f8, f9, f10, f11⟩ := ST.out k hlt
          have PA := hide (fun W => lpart_any T F SS W HE.out.2.2.2.2.2.1 f2 hS0 HE.out.2.2.2.1)
          have eQ : T * F / SS = Q := by
            have : (T : Int) * (F : Int) / (SS : Int) = (Q : Int) := by rw [← f6]; unfold qK; rw [f1]
            exact_mod_cast this
          rw [eQ] at PA
          have eF : preS l k + l[k] = (F : Int) := by rw [← f1, preS_succ l k hlt]
          have EQ := hide (And.intro f1 f6)
          have b2 : (F : Int) ≤ 1152921504606846976 := by omega
          have b3 : (Q : Int) ≤ 1152921504606846976 := by omega
          have cz := (HR.out.r1.1 k).trans (mkRow_at l.length (outF (T : Int) (SS : Int) l k) hlt)
          rw [show outF (T : Int) (SS : Int) l k k = .int .i64 0 by simp [outF]] at cz
          have fz := HR.out.r1.2.1 k
          have hlw := HR.out.r1.2.2
          have STW := hide (fun (wr' : World) (h : Own w wr' [(w.heap.size, 3, mkRow l.length (outF (T : Int) (SS : Int) l k))]) => (by
            have := h.set0 (Nat.le_refl _) (by intro y hy; simp at hy) k (.int .i64 (qK (T : Int) (SS : Int) l (k + 1) - qK (T : Int) (SS : Int) l k))
            rw [outF_set] at this
            rw [f6] at this
            exact this : Own w (wr'.setCell ⟨w.heap.size, k, none⟩ (.int .i64 ((Q : Int) - qK (T : Int) (SS : Int) l k))) [(w.heap.size, 3, mkRow l.length (outF (T : Int) (SS : Int) l (k + 1)))]))
          clear hat f1 f2 f3 f4 f5 f6 f7 eQ
          generalize preS l k = p at *
          generalize qK (T : Int) (SS : Int) l k = q at *
          generalize l[k] = x at *
          go_wp2_with fail
          refine (PA.out _).mono ?_
          rintro e w' ⟨rfl, m, rfl⟩
          have HR2 := hide (STW.out _ (show Own w (wr.drewN m) _ from ⟨below_dnM HR.out.1 m, fun x hx => (HR.out.2 x hx).drewN m⟩))
          have cz2 : (wr.drewN m).cell? ⟨w.heap.size, k, none⟩ = some (.int .i64 0) := cz
          have fz2 : (wr.drewN m).frozen? ⟨w.heap.size, k, none⟩ = false := fz
          clear STW cz fz HR c0
          generalize World.drewN _ m = W at *
          go_wp2
          go_roundw
          case rel => exact ⟨k + 1, by omega, by go_num, by rw [EQ.out.1], by rw [EQ.out.2], HR2⟩
          case measure => simp [intOf]; omega
        · have e : k = l.length := by omega
          subst e
          obtain ⟨E, e1, e2, e3, e4, e5, e6⟩ := HE.out
          have eS : l.sum / 2000000 = (T : Int) := by rw [e1, e4]; rfl
          have eL : meL l = (List.range l.length).map fun i => qK (T : Int) (SS : Int) l (i + 1) - qK (T : Int) (SS : Int) l i := by rw [e6, eS, e1, shK_map]
          have hbd : ∀ i, i < l.length → -9223372036854775808 ≤ qK (T : Int) (SS : Int) l (i + 1) - qK (T : Int) (SS : Int) l i ∧ qK (T : Int) (SS : Int) l (i + 1) - qK (T : Int) (SS : Int) l i ≤ 9223372036854775807 := fun i h => by
            have := me_bd (t := (T : Int)) (S := (SS : Int)) (by omega) (by omega) (by omega) HW2.out (by omega) i h
            omega
          have B := HR.out.2 _ (List.mem_cons_self ..)
          have LB : IntSl wr (some ⟨w.heap.size, 0, none⟩) ((List.range l.length).map fun i => qK (T : Int) (SS : Int) l (i + 1) - qK (T : Int) (SS : Int) l i) := by
            refine IntSl.of_blk (t := 3) (f := fun i => qK (T : Int) (SS : Int) l (i + 1) - qK (T : Int) (SS : Int) l i) ?_ (by omega) hbd
            rw [mkRow_congr (g := outF (T : Int) (SS : Int) l l.length) (fun i hi => by simp [outF, hi])]
            exact B
          have FIN := hide (And.intro HR.out.1 (And.intro LB (And.intro eL E)))
          clear LB B hbd eL E e1 e2 e3 e4 e5 e6 eS
          go_wp2
          exact bodyPost_ret (v := .tuple #[.slice (some ⟨w.heap.size, 0, none⟩) l.length l.length, .int .i64 0]) (by simp [results, Tryz.results20, go_sem]) rfl
            ⟨FIN.out.1, some ⟨w.heap.size, 0, none⟩, l.length, by rw [FIN.out.2.2.1, FIN.out.2.2.2]; simp, by rw [FIN.out.2.2.1]; exact FIN.out.2.1, by rw [FIN.out.2.2.1]; simp⟩
end Go.Proofs.YtaaadejamjbcbaaGreatDoor

namespace Go.Proofs.YtaaadejamjbcbaaGreatDoor
open Go Go.RowKit

def gcls : Cls := ⟨⟨#[103, 97, 114, 100, 101, 110]⟩, 250, 100, 400, 100⟩
def gtxt : List UInt8 := [103, 97, 114, 100, 101, 110, 32, 50, 53, 48, 32, 49, 48, 48, 32, 52, 48, 48, 32, 49, 48, 48, 10]
theorem g_valid : validB [gcls] = true := by rw [validB_one]; decide +kernel
theorem g_text : txL [gcls] = gtxt := by decide +kernel
theorem g_read : prsF gtxt = ([gcls], 0, 0) := by
  unfold prsF
  rw [if_neg (by decide), ← g_text]
  exact read_text g_valid
theorem g_met : meE [3000000, 3000000, 2000000] = 0 ∧ meL [3000000, 3000000, 2000000] = [1, 2, 1] := by decide +kernel
theorem IntSl.of_own15 {w W : World} {b : Nat} {t : TypeId} {c0 : Array Value} {L : List (Nat × TypeId × Array Value)} (h : Own w W ((b, t, c0) :: L)) (l : List Int) (e : c0 = (l.map (Value.int .i64)).toArray)
    (hl : l.length ≤ 9223372036854775807 ∧ ∀ i (h : i < l.length), -9223372036854775808 ≤ l[i] ∧ l[i] ≤ 9223372036854775807) : IntSl W (some ⟨b, 0, none⟩) l :=
  ⟨hl, fun _ => ⟨b, 0, rfl, h.r1.2.2, fun i hi => by rw [h.r1.1 (0 + i), e]; simp [hi]⟩⟩
theorem small315 (x y z : Int) (hx : 0 ≤ x ∧ x ≤ 3000000) (hy : 0 ≤ y ∧ y ≤ 3000000) (hz : 0 ≤ z ∧ z ≤ 3000000) : [x, y, z].length ≤ 9223372036854775807 ∧ ∀ i (h : i < [x, y, z].length), -9223372036854775808 ≤ [x, y, z][i] ∧ [x, y, z][i] ≤ 9223372036854775807 := by
  refine ⟨by simp, fun i h => ?_⟩
  match i, h with
  | 0, _ => simp; omega
  | 1, _ => simp; omega
  | 2, _ => simp; omega
set_option maxRecDepth 100000 in
set_option maxHeartbeats 2000000 in
theorem awake_any (w : World) (ht : TxtW w) : Calls Tryz.prog 6 #[] w (RetV (.bool true) w) := by
  have X := Own.start w
  have HT := hide ht
  have P := hide (fun W hW => parse_any gtxt W (by decide) hW)
  have M := hide (fun W A c h => metres_any [3000000, 3000000, 2000000] A c W h)
  have V := hide (fun W A c h => luvalid_any [gcls] A c W h)
  have EQ := hide (fun W A B c c' h h' => equalI_any [1, 2, 1] [1, 2, 1] A B c c' W h h')
  rw [g_valid] at V
  clear ht
  unfold PrsPost at P
  rw [g_read] at P
  simp only [show colI 0 = 0 from rfl] at P
  unfold MePost at M
  rw [g_met.1, g_met.2] at M
  go_enter Tryz.func6, Tryz.ntmps6
  go_wp2_with fail
  refine (P.out _ HT.out).mono ?_
  rintro e w1 ⟨hb, A, c, rfl, hsl, hcp⟩
  obtain ⟨bb, off, rfl, hbl, hat⟩ := hsl.2 (by simp)
  obtain ⟨c0, c1, c2, c3, c4⟩ := hat 0 (by simp)
  simp only [List.getElem_cons_zero, Nat.zero_mul, Nat.add_zero] at c0 c1 c2 c3 c4
  have SL := hide hsl
  replace X := (X.to hb).alloc #[.int .i64 0, .int .i64 0] 51
  replace X := X.alloc #[.int .i64 3000000, .int .i64 3000000, .int .i64 2000000] 3
  simp only [World.size_alloc] at X
  have hb0 := hb.size
  clear hb hsl hat
  have MS := hide (IntSl.of_own15 X [3000000, 3000000, 2000000] rfl (small315 _ _ _ (by omega) (by omega) (by omega)))
  have hr := X.r2
  go_wp2_with fail
  refine (M.out _ _ 3 MS.out).mono ?_
  rintro e w2 ⟨hb, A2, cc, rfl, hm, hmc⟩
  have hbw : Below w1.heap.size w1 w2 := below_via (((Below.refl _ w1).alloc (Nat.le_refl _) _).alloc (by simp) _) (by simp; omega) hb
  have d0 := (hbw.cell (p := ⟨bb, off, none⟩) hbl).trans c0
  have d1 := (hbw.cell (p := ⟨bb, off + 1, none⟩) hbl).trans c1
  have d2 := (hbw.cell (p := ⟨bb, off + 2, none⟩) hbl).trans c2
  have d3 := (hbw.cell (p := ⟨bb, off + 3, none⟩) hbl).trans c3
  have d4 := (hbw.cell (p := ⟨bb, off + 4, none⟩) hbl).trans c4
  have SL2 := hide (SL.out.below hbw)
  replace X := X.to hb
  have hr2 := X.r2
  replace X := X.alloc #[.int .i64 1, .int .i64 2, .int .i64 1] 3
  have hm2 := hide (hm.below ((Below.refl _ w2).alloc (Nat.le_refl _) (.cells #[.int .i64 1, .int .i64 2, .int .i64 1] 3)))
  have MS2 := hide (IntSl.of_own15 X [1, 2, 1] rfl (small315 _ _ _ (by omega) (by omega) (by omega)))
  have SL3 := hide (SL2.out.below ((Below.refl _ w2).alloc (Nat.le_refl _) (.cells #[.int .i64 1, .int .i64 2, .int .i64 1] 3)))
  have e0 : gcls.nm = ⟨#[103, 97, 114, 100, 101, 110]⟩ := rfl
  have e1 : gcls.se = 250 := rfl
  have e2 : gcls.we = 100 := rfl
  have e3 : gcls.ro = 400 := rfl
  have e4 : gcls.dr = 100 := rfl
  rw [e0] at d0
  rw [e1] at d1
  rw [e2] at d2
  rw [e3] at d3
  rw [e4] at d4
  clear hr c0 c1 c2 c3 c4 hb hbw hm e0 e1 e2 e3 e4
  go_wp2_with fail
  refine (EQ.out _ _ _ cc 3 hm2.out MS2.out).mono ?_
  rintro e w3 ⟨rfl, hb⟩
  have SL4 := hide (SL3.out.below hb)
  replace X := X.to hb
  clear hb hr2
  rw [show eqB [1, 2, 1] [1, 2, 1] = true from by decide]
  go_wp2_with fail
  refine (V.out _ _ c SL4.out).mono ?_
  rintro e w4 ⟨rfl, hb⟩
  replace X := X.to hb
  clear hb
  go_wp2
  go_ret
  exact ⟨rfl, X.1⟩
end Go.Proofs.YtaaadejamjbcbaaGreatDoor

namespace Go.Proofs.YtaaadejamjbcbaaGreatDoor
open Go Go.RowKit

def lgB2 (m : Msh) : Bool := decide (60 < m.ss.length) || decide (80 < m.fs.length)
set_option maxHeartbeats 1000000 in
theorem lglarge2_any (m : Msh) (a : MshA) (w : World) : Calls Tryz.prog 7 #[m.val a] w (RetW (.bool (lgB2 m)) w) := by
  have X := (Own.start w).alloc (m.cells a) 25
  have hr := X.r1
  have E : Hid (lgB2 m = (decide (60 < m.ss.length) || decide (80 < m.fs.length))) := hide rfl
  by_cases h1 : 60 < m.ss.length <;> by_cases h2 : 80 < m.fs.length
  all_goals
    go_enter Tryz.func7, Tryz.ntmps7
    go_wp2
    go_ret
    exact ⟨ret_bool (by rw [E.out]; simp [h1, h2]; try omega), X.1⟩
theorem arV_i64 {ss : List Spt} {fs : List Fce} {inl : List Int} (hv : vM ⟨ss, fs⟩ = true) (hl : inl.length = fs.length) (i c : Nat) : i64 (arV ss fs inl inl.length i c) := by
  have sm := vM_small hv
  have := arV_bd (inl := inl) (n := fs.length) (fun k hk => (trn_bd2 (tri_in sm.1 (vM_face hv k hk).1).1 (tri_in sm.1 (vM_face hv k hk).1).2.1 (tri_in sm.1 (vM_face hv k hk).1).2.2 : -2251799813685248 ≤ twA ss (fcA fs k) ∧ twA ss (fcA fs k) ≤ 2251799813685248)) i c inl.length (by omega)
  unfold i64
  omega
set_option maxRecDepth 100000 in
set_option maxHeartbeats 4000000 in
theorem areas_law (m : Msh) (a : MshA) (inl : List Int) (A : Option Addr) (cp : Nat) (n : Int) (w : World) (hm : MshSl w m a) (hi : IntSl w A inl) (ht : TxtW w) :
    Calls Tryz.prog 4 #[m.val a, .slice A inl.length cp, .int .i64 n] w (RetV (.bool true) w) := by
  obtain ⟨ss, fs⟩ := m
  obtain ⟨A1, c1, A2, c2⟩ := a
  have AW := hide (fun W h => awake_any W h)
  have X := (Own.start w).alloc #[.slice A1 ss.length c1, .slice A2 fs.length c2] 25
  have HM := hide hm
  have HT := hide ht
  have HI := hide hi
  have hl1 : inl.length ≤ 9223372036854775807 := hi.1.1
  have LG := hide (fun W => lglarge2_any ⟨ss, fs⟩ ⟨A1, c1, A2, c2⟩ W)
  have RV := hide (fun W h => mrvalid_any ⟨ss, fs⟩ ⟨A1, c1, A2, c2⟩ W h)
  unfold RetW at LG RV
  have hr := X.r1
  show Calls _ _ #[.agg #[.slice A1 ss.length c1, .slice A2 fs.length c2], _, _] w _
  clear hm ht hi
  cases hlg : lgB2 ⟨ss, fs⟩ with
  | true =>
    rw [hlg] at LG
    clear hlg
    go_enter Tryz.func4, Tryz.ntmps4
    go_wp2_with fail
    refine (AW.out _ (HT.out.below X.1)).mono ?_
    rintro e w1 ⟨rfl, hb⟩
    replace X := X.to hb
    clear hb hr
    have hr := X.r1
    go_wp2_with fail
    refine (LG.out _).mono ?_
    rintro e w1 ⟨rfl, hb⟩
    replace X := X.to hb
    clear hb hr
    have hr := X.r1
    clear hr
    go_wp2
    go_ret
    exact ⟨rfl, X.1⟩
  | false =>
    rw [hlg] at LG
    clear hlg
    by_cases h100 : (100 : Int) < (inl.length : Int)
    · have d1 : decide ((100 : Int) < (inl.length : Int)) = true := decide_eq_true h100
      have d1' : decide (100 < inl.length) = true := decide_eq_true (by omega)
      clear h100
      go_enter Tryz.func4, Tryz.ntmps4
      go_wp2_with fail
      refine (AW.out _ (HT.out.below X.1)).mono ?_
      rintro e w1 ⟨rfl, hb⟩
      replace X := X.to hb
      clear hb hr
      have hr := X.r1
      go_wp2_with fail
      refine (LG.out _).mono ?_
      rintro e w1 ⟨rfl, hb⟩
      replace X := X.to hb
      clear hb hr
      have hr := X.r1
      clear hr
      go_wp2
      go_ret
      exact ⟨rfl, X.1⟩
    have d1 : decide ((100 : Int) < (inl.length : Int)) = false := decide_eq_false h100
    have d1' : decide (100 < inl.length) = false := decide_eq_false (by omega)
    clear h100
    cases hv : vM ⟨ss, fs⟩ with
    | false =>
      rw [hv] at RV
      have CB := hide (fun W h ht => areas_bad ⟨ss, fs⟩ ⟨A1, c1, A2, c2⟩ inl A cp n W h ht hv)
      unfold ArErr at CB
      clear hv
      go_enter Tryz.func4, Tryz.ntmps4
      go_wp2_with fail
      refine (AW.out _ (HT.out.below X.1)).mono ?_
      rintro e w1 ⟨rfl, hb⟩
      replace X := X.to hb
      clear hb hr
      have hr := X.r1
      go_wp2_with fail
      refine (LG.out _).mono ?_
      rintro e w1 ⟨rfl, hb⟩
      replace X := X.to hb
      clear hb hr
      have hr := X.r1
      go_wp2_with fail
      refine (CB.out _ (HM.out.below X.1) (HT.out.below X.1).1).mono ?_
      rintro e w1 ⟨rfl, hb⟩
      replace X := X.to hb
      clear hb hr
      have hr := X.r1
      go_wp2_with fail
      refine (RV.out _ (HM.out.below X.1)).mono ?_
      rintro e w1 ⟨rfl, hb⟩
      replace X := X.to hb
      clear hb hr
      go_wp2
      go_ret
      exact ⟨rfl, X.1⟩
    | true =>
      rw [hv] at RV
      by_cases he : arE fs inl n = 0
      · obtain ⟨h3, g1, g2, nb, _⟩ := arE_ok he
        obtain ⟨c, rfl⟩ : ∃ c : Nat, n = (c : Int) := ⟨n.toNat, by omega⟩
        have CO := hide (fun W h hi ht => areas_ok ss fs A1 A2 c1 c2 inl A cp c W h hi ht hv he)
        unfold ArPost at CO
        have RC := hide (fun W h hi => rareas_any ss fs A1 A2 c1 c2 inl A cp (c : Int) W h hi hv)
        unfold RArPost at RC
        have HE := hide he
        have BD := hide (fun i x => arV_i64 hv h3 i x)
        have RL := hide (rwN_le (inl_bdD nb) inl.length)
        have c16 : c ≤ 16 := by omega
        clear hv he h3 g1 g2 nb
        go_enter Tryz.func4, Tryz.ntmps4
        go_wp2_with fail
        refine (AW.out _ (HT.out.below X.1)).mono ?_
        rintro e w1 ⟨rfl, hb⟩
        replace X := X.to hb
        clear hb hr
        have hr := X.r1
        go_wp2_with fail
        refine (LG.out _).mono ?_
        rintro e w1 ⟨rfl, hb⟩
        replace X := X.to hb
        clear hb hr
        have hr := X.r1
        go_wp2_with fail
        refine (CO.out _ (HM.out.below X.1) (HI.out.below X.1) (HT.out.below X.1).1).mono ?_
        rintro e w1 ⟨V, gs, rfl, hT, hg, hb⟩
        replace X := X.to hb
        have T1 := hide hT
        have G1 := hide hg
        clear hb hr hT hg
        have hr := X.r1
        go_wp2_with fail
        refine (RV.out _ (HM.out.below X.1)).mono ?_
        rintro e w1 ⟨rfl, hb⟩
        replace X := X.to hb
        replace T1 := hide (T1.out.to hb)
        clear hb hr
        have hr := X.r1
        go_wp2_with fail
        refine (RC.out _ (HM.out.below X.1) (HI.out.below X.1)).mono ?_
        rintro e w3 ⟨hb, ⟨h0, -⟩ | ⟨-, V', gs', rfl, hT, hg⟩⟩
        · exact absurd HE.out h0
        replace X := X.to hb
        replace T1 := hide (T1.out.to hb)
        rw [Int.toNat_natCast] at hT
        have EQ := hide (eqT_any V V' _ _ gs gs' c _ w3 c16 (G1.out.trans hg.symm) (by rw [G1.out]; exact RL.out) BD.out T1.out hT)
        clear hb hr hT hg T1 G1
        go_wp2_with fail
        refine EQ.out.mono ?_
        rintro e w4 ⟨rfl, hb⟩
        replace X := X.to hb
        clear hb
        go_wp2
        go_ret
        exact ⟨rfl, X.1⟩
      · have CE := hide (fun W h hi ht => areas_err ss fs A1 A2 c1 c2 inl A cp n W h hi ht hv he)
        unfold ArErr at CE
        have RC := hide (fun W h hi => rareas_any ss fs A1 A2 c1 c2 inl A cp n W h hi hv)
        unfold RArPost at RC
        have HE := hide he
        have EQ := hide (fun W => eqT_any (.slice none 0 0) (.slice none 0 0) 0 0 [] [] 0 (fun _ _ => 0) W (by omega) rfl (by simp) (fun _ _ => by unfold i64; omega) (Tr.nil W 0 0 _) (Tr.nil W 0 0 _))
        generalize arE fs inl n = er at *
        have de : (er == er) = true := by simp
        clear hv he
        go_enter Tryz.func4, Tryz.ntmps4
        go_wp2_with fail
        refine (AW.out _ (HT.out.below X.1)).mono ?_
        rintro e w1 ⟨rfl, hb⟩
        replace X := X.to hb
        clear hb hr
        have hr := X.r1
        go_wp2_with fail
        refine (LG.out _).mono ?_
        rintro e w1 ⟨rfl, hb⟩
        replace X := X.to hb
        clear hb hr
        have hr := X.r1
        go_wp2_with fail
        refine (CE.out _ (HM.out.below X.1) (HI.out.below X.1) (HT.out.below X.1).1).mono ?_
        rintro e w1 ⟨rfl, hb⟩
        replace X := X.to hb
        clear hb hr
        have hr := X.r1
        go_wp2_with fail
        refine (RV.out _ (HM.out.below X.1)).mono ?_
        rintro e w1 ⟨rfl, hb⟩
        replace X := X.to hb
        clear hb hr
        have hr := X.r1
        go_wp2_with fail
        refine (RC.out _ (HM.out.below X.1) (HI.out.below X.1)).mono ?_
        rintro e w3 ⟨hb, ⟨-, rfl⟩ | ⟨h0, -⟩⟩
        rotate_left
        · exact absurd h0 HE.out
        replace X := X.to hb
        clear hb hr
        go_wp2_with fail
        refine (EQ.out _).mono ?_
        rintro e w4 ⟨rfl, hb⟩
        replace X := X.to hb
        clear hb
        go_wp2
        go_ret
        exact ⟨rfl, X.1⟩
end Go.Proofs.YtaaadejamjbcbaaGreatDoor

namespace Go.Proofs.YtaaadejamjbcbaaGreatDoor
open Go Go.RowKit
theorem i64_of_wf {n : Int} (h : (Lit.int .i64 n).wf = true) : -9223372036854775808 ≤ n ∧ n ≤ 9223372036854775807 := by
  simpa [Lit.wf, IntKind.min, IntKind.max, IntKind.signed, IntKind.bits] using h
theorem u32_of_wf {n : Int} (h : (Lit.int .u32 n).wf = true) : 0 ≤ n ∧ n ≤ 4294967295 := by
  simpa [Lit.wf, IntKind.min, IntKind.max, IntKind.signed, IntKind.bits] using h
end Go.Proofs.YtaaadejamjbcbaaGreatDoor

namespace Go.Proofs.YtaaadejamjbcbaaGreatDoor
open Go.RowKit Go.ChangeShapes Go.WideShapes Go.ChangeAt

theorem listM_of {α : Type} {P : Nat → α → Prop} : ∀ (n : Nat), (∀ i, i < n → ∃ x, P i x) → ∃ l : List α, l.length = n ∧ ∀ i (h : i < l.length), P i l[i]
  | 0, _ => ⟨[], rfl, fun i h => by simp at h⟩
  | n + 1, h => by
    obtain ⟨l, hl, hp⟩ := listM_of n (fun i hi => h i (by omega))
    obtain ⟨x, hx⟩ := h n (by omega)
    refine ⟨l ++ [x], by simp [hl], fun i hi => ?_⟩
    by_cases k : i < l.length
    · rw [List.getElem_append_left k]; exact hp i k
    · have e : i = n := by simp at hi; omega
      subst e
      subst hl
      simpa using hx
section
variable {H : Type} {enc : TypeId × Value → H} {W : World} {d : DataW H} {p : List MemPlace} {b0 : Nat}
theorem addM_plain (b off n : Nat) : (⟨b, off, none⟩ : Addr).add n = ⟨b, off + n, none⟩ := by
  unfold Addr.add; split <;> simp_all
theorem open_cellSpt {k : Nat} {y : DataW H × List MemPlace} {v : Value} (hf : DataW.trod enc Tryz.prog W 0 (fun _ => true) true k 22 [v] = some y) : ∃ A cap l, v = .slice A (List.length l) cap ∧ SptSl W A l := by
  rcases open_slice_fields Tryz.underlying22 Tryz.underlying62 (by kernel_rfl) (by kernel_rfl) hf with ⟨hcs, _⟩ | ⟨a, len', cap', m, D, Pl, hcs, _, hl, hm, hmm, _, hat⟩
  · simp only [List.cons.injEq, and_true] at hcs
    subst hcs
    exact ⟨none, 0, [], rfl, ⟨by simp, fun i h => by simp at h⟩, fun h => by simp at h⟩
  · simp only [List.cons.injEq, and_true] at hcs
    subst hcs
    simp only [if_true] at hmm
    subst hmm
    have hex : ∀ i, i < len' → ∃ x : Spt, (i64 x.x ∧ i64 x.y ∧ i64 x.z) ∧ W.cell? (a.add (i * 3 + 0)) = some (.int .i64 x.x) ∧ W.cell? (a.add (i * 3 + 1)) = some (.int .i64 x.y) ∧ W.cell? (a.add (i * 3 + 2)) = some (.int .i64 x.z) := fun i hi => by
      obtain ⟨ys, n, _, _, _, hf⟩ := hat i (by omega)
      obtain ⟨v0, y0, hc0, _, ht0⟩ := hf 0 _ rfl
      obtain ⟨v1, y1, hc1, _, ht1⟩ := hf 1 _ rfl
      obtain ⟨v2, y2, hc2, _, ht2⟩ := hf 2 _ rfl
      obtain ⟨x0, e0, _, w0⟩ := DataW.trod_int Tryz.underlying3 ht0
      obtain ⟨x1, e1, _, w1⟩ := DataW.trod_int Tryz.underlying3 ht1
      obtain ⟨x2, e2, _, w2⟩ := DataW.trod_int Tryz.underlying3 ht2
      simp only [List.cons.injEq, and_true] at e0 e1 e2
      subst e0 e1 e2
      exact ⟨⟨x0, x1, x2⟩, ⟨i64_of_wf w0, i64_of_wf w1, i64_of_wf w2⟩, hc0, hc1, hc2⟩
    obtain ⟨l, hlen, hl'⟩ := listM_of len' hex
    refine ⟨some a, m, l, by rw [hlen], ⟨by omega, fun i hi => (hl' i hi).1⟩, fun h0 => ?_⟩
    obtain ⟨b, off, spot⟩ := a
    have hspot : spot = none := by simpa [Addr.add] using World.cell?_spot (hl' 0 h0).2.1
    subst hspot
    simp only [addM_plain] at hl'
    refine ⟨b, off, rfl, lt_of_cell (p := ⟨b, off + (0 * 3 + 0), none⟩) (hl' 0 h0).2.1, fun i hi => ?_⟩
    obtain ⟨_, k0, k1, k2⟩ := hl' i hi
    exact ⟨by simpa using k0, by simpa [Nat.add_assoc] using k1, by simpa [Nat.add_assoc] using k2⟩
theorem open_cellFce {k : Nat} {y : DataW H × List MemPlace} {v : Value} (hf : DataW.trod enc Tryz.prog W 0 (fun _ => true) true k 23 [v] = some y) : ∃ A cap l, v = .slice A (List.length l) cap ∧ FceSl W A l := by
  rcases open_slice_fields Tryz.underlying23 Tryz.underlying65 (by kernel_rfl) (by kernel_rfl) hf with ⟨hcs, _⟩ | ⟨a, len', cap', m, D, Pl, hcs, _, hl, hm, hmm, _, hat⟩
  · simp only [List.cons.injEq, and_true] at hcs
    subst hcs
    exact ⟨none, 0, [], rfl, ⟨by simp, fun i h => by simp at h⟩, fun h => by simp at h⟩
  · simp only [List.cons.injEq, and_true] at hcs
    subst hcs
    simp only [if_true] at hmm
    subst hmm
    have hex : ∀ i, i < len' → ∃ x : Fce, (i64 x.a ∧ i64 x.b ∧ i64 x.c ∧ i64 x.k) ∧ W.cell? (a.add (i * 4 + 0)) = some (.int .i64 x.a) ∧ W.cell? (a.add (i * 4 + 1)) = some (.int .i64 x.b) ∧ W.cell? (a.add (i * 4 + 2)) = some (.int .i64 x.c) ∧ W.cell? (a.add (i * 4 + 3)) = some (.int .i64 x.k) := fun i hi => by
      obtain ⟨ys, n, _, _, _, hf⟩ := hat i (by omega)
      obtain ⟨v0, y0, hc0, _, ht0⟩ := hf 0 _ rfl
      obtain ⟨v1, y1, hc1, _, ht1⟩ := hf 1 _ rfl
      obtain ⟨v2, y2, hc2, _, ht2⟩ := hf 2 _ rfl
      obtain ⟨v3, y3, hc3, _, ht3⟩ := hf 3 _ rfl
      obtain ⟨x0, e0, _, w0⟩ := DataW.trod_int Tryz.underlying3 ht0
      obtain ⟨x1, e1, _, w1⟩ := DataW.trod_int Tryz.underlying3 ht1
      obtain ⟨x2, e2, _, w2⟩ := DataW.trod_int Tryz.underlying3 ht2
      obtain ⟨x3, e3, _, w3⟩ := DataW.trod_int Tryz.underlying3 ht3
      simp only [List.cons.injEq, and_true] at e0 e1 e2 e3
      subst e0 e1 e2 e3
      exact ⟨⟨x0, x1, x2, x3⟩, ⟨i64_of_wf w0, i64_of_wf w1, i64_of_wf w2, i64_of_wf w3⟩, hc0, hc1, hc2, hc3⟩
    obtain ⟨l, hlen, hl'⟩ := listM_of len' hex
    refine ⟨some a, m, l, by rw [hlen], ⟨by omega, fun i hi => (hl' i hi).1⟩, fun h0 => ?_⟩
    obtain ⟨b, off, spot⟩ := a
    have hspot : spot = none := by simpa [Addr.add] using World.cell?_spot (hl' 0 h0).2.1
    subst hspot
    simp only [addM_plain] at hl'
    refine ⟨b, off, rfl, lt_of_cell (p := ⟨b, off + (0 * 4 + 0), none⟩) (hl' 0 h0).2.1, fun i hi => ?_⟩
    obtain ⟨_, k0, k1, k2, k3⟩ := hl' i hi
    exact ⟨by simpa using k0, by simpa [Nat.add_assoc] using k1, by simpa [Nat.add_assoc] using k2, by simpa [Nat.add_assoc] using k3⟩
set_option maxRecDepth 100000 in
theorem open_mesh {v : Value} (hv : Value.okWide Tryz.prog W .any b0 25 v) (h : DataW.Trod enc Tryz.prog W 0 (fun _ => true) true 25 v d p) : ∃ c : Msh × MshA, v = c.1.val c.2 ∧ MshSl W c.1 c.2 := by
  obtain ⟨v0, v1, y0, y1, n, rfl, _, _, g0, g1⟩ := Joins.open_agg2 Tryz.underlying25 (by kernel_rfl) (by kernel_rfl) hv h
  obtain ⟨A1, c1, l1, rfl, h1⟩ := open_cellSpt g0
  obtain ⟨A2, c2, l2, rfl, h2⟩ := open_cellFce g1
  exact ⟨⟨⟨l1, l2⟩, ⟨A1, c1, A2, c2⟩⟩, rfl, h1, h2⟩
end
end Go.Proofs.YtaaadejamjbcbaaGreatDoor

namespace Go.Proofs.YtaaadejamjbcbaaGreatDoor
open Go.RowKit Go.ChangeShapes Go.WideShapes Go.ChangeAt
section
variable {H : Type} {enc : TypeId × Value → H} {W : World} {v : Value} {d : DataW H} {p : List MemPlace} {b0 : Nat}
set_option maxRecDepth 100000 in
theorem open_intS (hv : Value.okWide Tryz.prog W .any b0 35 v) (h : DataW.Trod enc Tryz.prog W 0 (fun _ => true) true 35 v d p) : ∃ A cap l, v = .slice A (List.length l) cap ∧ IntSl W A l := by
  obtain ⟨a0, len, cap, rfl⟩ := okWide_slice Tryz.underlying35 hv
  obtain ⟨fuel, hf⟩ := h
  rcases open_ints Tryz.underlying35 Tryz.underlying3 (by kernel_rfl) hf with ⟨hcs, _⟩ | ⟨a, len', cap', zs, hcs, _, hl, hm, hz, _, hcell, hwz⟩
  · simp only [Value.cells, List.cons.injEq, Value.slice.injEq, and_true] at hcs
    obtain ⟨rfl, rfl, rfl⟩ := hcs
    exact ⟨none, 0, [], rfl, IntSl.nil _ _⟩
  · simp only [Value.cells, List.cons.injEq, Value.slice.injEq, and_true] at hcs
    obtain ⟨rfl, rfl, rfl⟩ := hcs
    simp only [if_true] at hz
    have hlen : (zs.take len).length = len := by rw [List.length_take]; omega
    refine ⟨some a, cap, zs.take len, by rw [hlen], ⟨?_, ?_⟩, ?_⟩
    · unfold maxLen at hm; omega
    · intro i hi
      have : (zs.take len)[i] ∈ zs := List.mem_of_mem_take (List.getElem_mem hi)
      have := hwz _ this
      simpa [Lit.wf, IntKind.min, IntKind.max, IntKind.signed, IntKind.bits] using this
    · intro h0
      obtain ⟨b, off, rfl, hc⟩ := ints_at hcell (by omega)
      refine ⟨b, off, rfl, ?_, fun i hi => ?_⟩
      · have := hc 0 (by omega)
        exact lt_of_cell (p := ⟨b, off + 0, none⟩) this
      · have hi' : i < zs.length := by omega
        rw [hc i hi']
        simp [hi']
end
end Go.Proofs.YtaaadejamjbcbaaGreatDoor

namespace Go.Proofs.YtaaadejamjbcbaaGreatDoor
open Go Go.RowKit Go.ChangeShapes

theorem len_of {s : ByteArray} (h : s.size ≤ maxLen) : s.size ≤ 9223372036854775807 := by unfold maxLen at h; omega
/-- a listed variable of an interface's type holds a value -/
theorem laid_iface {P : Program} {n nm : String} {d : DataW Unit} {r : List (String × DataW Unit)} {W : World} {g : Nat} {ti : TypeId} {ms : Array (String × TypeId)}
    (h : laidMet P ((n, .iface nm d) :: r) W) (hg : P.globalNamed n = some g) (ht : (P.globals[g]?).map (·.type) = some ti) (hi : P.underlying ti = some (.interface ms)) :
    ∃ ev, W.cell? ⟨g, 0, none⟩ = some ev ∧ (ev = .nilIface ∨ ∃ te pe, ev = .iface te pe) := by
  obtain ⟨ps, ⟨g0, t0, cs0, f0, p0, q0, hg0, ht0, hv0, hd0, _, _⟩, _, _⟩ := h
  obtain rfl := Option.some.inj (hg.symm.trans hg0)
  obtain rfl := Option.some.inj (ht.symm.trans ht0)
  obtain ⟨l0⟩ := cs0
  obtain ⟨_, u, v, e, _, _⟩ := iface_of_trod hi hd0
  have e' : l0 = [.iface u v] := e
  subst e'
  exact ⟨.iface u v, by simpa using World.var?_cell hg0 hv0 0, .inr ⟨u, v, rfl⟩⟩
/-- the wrap of a row that lists variables, with the world's shape -/
theorem handed_shaped {H : Type} {enc : TypeId × Value → H} {a : Assume} {C : Checked} {os : Os} {f : FuncId} {fn : Func} {s : ChangeSpec} {conds : List PathCond} {apart fresh handsOn again : Bool} {X : World → Array Value → Prop}
    (hX : ∀ (w w' : World) (args : Array Value), w.heap = w'.heap → X w args → X w' args) (own : ownKnob C.prog.godebug = none) (started : os.Started) (noInit : C.prog.inits.idxOf? f = none) (hfn : C.prog.funcs[f]? = some fn)
    (witness : ∃ (w : World) (tape : Tape) (i : Input), w.os = os ∧ (w.forCall tape i).Shaped C.prog ∧ i.vars = [] ∧ Input.okWide C.prog (w.forCall tape i) .any w.heap.size f i ∧
      ((s.pre enc C.prog fn conds apart (w.forCall tape i).memory i.args ∧ X (w.forCall tape i).memory i.args) ∧ sizedMet enc C.prog fn (OpenSpec.ofChange s) apart (w.forCall tape i).memory i.args) ∧ a.holds C.prog (lone (Frame.enter C.prog f i.args .normal) [] (w.forCall tape i)))
    (contract : ∀ (W : World) (base : Nat) (args : Array Value) (ds gs : List (DataW H)) (before : List MemPlace),
      (∀ (j : Nat) t v, fn.params[j]? = some t → args[j]? = some v → Value.okWide C.prog W .any base t v) → DataW.Whole enc C.prog fn.params.toList s.vars apart W args.toList ds gs before →
      X W args → W.ShapedOpen C.prog → Calls C.prog f args W fun e W' => ∃ v, e = .returned v ∧ s.post enc C.prog fn apart fresh handsOn again W args v W') :
    ReturnsInHanded a C os f .any (fun w args => (s.pre enc C.prog fn conds apart w args ∧ X w args) ∧ sizedMet enc C.prog fn (OpenSpec.ofChange s) apart w args) (s.post enc C.prog fn apart fresh handsOn again) := by
  refine returnsInHanded_of_calls own started noInit witness fun w tape i _ shape _ ok pre _ => ?_
  obtain ⟨_, _, _, fn2, hfn2, _, _, _, _, vals⟩ := ok
  obtain rfl : fn2 = fn := Option.some.inj (hfn2.symm.trans hfn)
  obtain ⟨⟨⟨ds, gs, before, whole, _⟩, x⟩, _⟩ := pre
  refine (contract (w.forCall tape i) w.heap.size i.args ds gs before vals (DataW.Whole.of_heap (w' := w.forCall tape i) (by rfl) whole) (hX _ _ _ (by rfl) x) shape).mono ?_
  rintro e W' ⟨v, rfl, hp⟩
  exact ChangeSpec.post_blind hp
end Go.Proofs.YtaaadejamjbcbaaGreatDoor
