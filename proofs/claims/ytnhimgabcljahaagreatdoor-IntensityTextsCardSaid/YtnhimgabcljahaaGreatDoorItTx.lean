/- The program's Text of a table of intensities: the text that is specified; nothing that was there is turned. -/
import Derived.Test.YtnhimgabcljahaaGreatDoorItLn
import Derived.Test.YtnhimgabcljahaaGreatDoorItVal
import Derived.Deep.RegionWith
import Derived.Deep.DeepCutAuto
namespace Go.Proofs.YtnhimgabcljahaaGreatDoor
open Go Go.RowKit

def ttR (T : Tab) : List UInt8 := if vT T = true then txT T else []
def ttE (T : Tab) : Int := if vT T = true then 0 else 1
theorem tt_good {T : Tab} (h : vT T = true) : ttR T = txT T ∧ ttE T = 0 := by simp [ttR, ttE, h]
theorem tt_bad {T : Tab} (h : vT T = false) : ttR T = [] ∧ ttE T = 1 := by simp [ttR, ttE, h]
def TtPost (T : Tab) (w : World) (e : Ending) (w' : World) : Prop := e = .returned (.tuple #[strV (ttR T), .int .i64 (ttE T)]) ∧ Below w.heap.size w w'
/-- the text of the first rows -/
def txK (T : Tab) (k : Nat) : List UInt8 := txRw ((rowsOf T).take (k + 1)) 0
theorem txK_0 (T : Tab) : txK T 0 = ln (wdA 0) T.ds ++ [10] := by simp [txK, rowsOf, txRw]
theorem txK_s {T : Tab} {k : Nat} (h1 : k < T.rows.length) (h2 : k < T.ps.length) : txK T (k + 1) = txK T k ++ (ln (wdA 1) (T.ps.getD k 0 :: T.rows.getD k []) ++ [10]) := by
  have hk : k + 1 < (rowsOf T).length := by unfold rowsOf; simp; omega
  unfold txK
  rw [List.take_succ_eq_append_getElem hk, txRw_append]
  congr 1
  have e : (rowsOf T)[k + 1] = T.ps.getD k 0 :: T.rows.getD k [] := by simp [rowsOf, h1, h2]
  rw [e]
  simp only [txRw, List.length_take]
  rw [show 0 + min (k + 1) (rowsOf T).length = (k) + 1 by omega, wdA_s, wdA_s]
theorem txK_end {T : Tab} (v : VT T) : txK T T.rows.length = txT T := by
  unfold txK txT
  rw [List.take_of_length_le (by rw [rowsOf_len v, v.rl]; exact Nat.le_refl _)]
theorem txK_len {T : Tab} (v : VT T) (k : Nat) : (txK T k).length ≤ 46872 := by
  have h := txRw_len ((rowsOf T).take (k + 1)) 0 (fun r hr => (rows_num v r (List.mem_of_mem_take hr)).2)
  have := v.p2
  have e := rowsOf_len v
  rw [List.length_take] at h
  unfold txK; omega
theorem drewSz (W : World) : W.drew.heap.size = W.heap.size := rfl
theorem Own.add {w W : World} {g : Nat} {t : TypeId} {cs : Array Value} {L : List (Nat × TypeId × Array Value)} (h : Own w W L) (hB : Blk W g t cs) : Own w W ((g, t, cs) :: L) :=
  ⟨h.1, fun x hx => by
    rcases List.mem_cons.1 hx with rfl | hx
    · exact hB
    · exact h.2 x hx⟩
set_option maxRecDepth 100000 in
set_option maxHeartbeats 4000000 in
theorem ittext_any0 (T : Tab) (A1 A2 A3 : Option Addr) (c1 c2 c3 : Nat) (w : World) (ht : TabSl w T ⟨A1, A2, A3, c1, c2, c3⟩) (hx : TxtW w) :
    Calls Tryz.prog 10 #[.agg #[.slice A1 T.ds.length c1, .slice A2 T.ps.length c2, .slice A3 T.rows.length c3]] w (TtPost T w) := by
  have X := (Own.start w).alloc #[.slice A1 T.ds.length c1, .slice A2 T.ps.length c2, .slice A3 T.rows.length c3] 25
  have H := hide ht
  have HX := hide hx
  have V : Hid (∀ W, TabSl W T ⟨A1, A2, A3, c1, c2, c3⟩ → Calls Tryz.prog 17 #[.agg #[.slice A1 T.ds.length c1, .slice A2 T.ps.length c2, .slice A3 T.rows.length c3]] W (BoolPost (vT T) W)) := hide (fun W h => tvalid_any T ⟨A1, A2, A3, c1, c2, c3⟩ W h)
  unfold BoolPost at V
  clear ht hx
  rcases Bool.eq_false_or_eq_true (vT T) with hv | hv
  case inr =>
    have E := hide (tt_bad hv)
    rw [hv] at V
    clear hv
    have H1 := hide (H.out.below X.1)
    have hr := X.r1
    go_enter Tryz.func10, Tryz.ntmps10
    go_wp2_with fail
    refine (V.out _ H1.out).mono ?_
    rintro e w1 ⟨rfl, hb⟩
    replace X := X.to hb
    clear hr hb
    go_wp2
    go_ret2
    exact ⟨by rw [E.out.1, E.out.2]; rfl, X.1⟩
  have E := hide (tt_good hv)
  rw [hv] at V
  have v := of_vT hv
  have K0 := hide (txK_0 T)
  have KS := hide (fun k h1 h2 => txK_s (T := T) (k := k) h1 h2)
  have KE := hide (txK_end v)
  have KL := hide (fun k => txK_len v k)
  have vd1 := v.d1
  have vd2 := v.d2
  have vp2 := v.p2
  have vr1 : T.rows.length ≤ T.ps.length := by rw [v.rl]; exact Nat.le_refl _
  have vr2 : T.ps.length ≤ T.rows.length := by rw [v.rl]; exact Nat.le_refl _
  have RN := hide (rows_num v)
  have RW := hide v.rw
  clear hv v
  have H1 := hide (H.out.below X.1)
  have hr := X.r1
  have LD := hide (fun W h h2 => line_any (wdA 0) T.ds A1 c1 W h h2 (RN.out T.ds (by simp [rowsOf])).2.1 (by have := (wdA_no 0).2.2; omega) (by omega))
  rw [show strV (wdA 0) = .string ⟨#[100, 117, 114, 97, 116, 105, 111, 110, 115]⟩ from rfl] at LD
  go_enter Tryz.func10, Tryz.ntmps10
  go_wp2_with fail
  refine (V.out _ H1.out).mono ?_
  rintro e w1 ⟨rfl, hb⟩
  replace X := X.to hb
  have H2 := hide (H1.out.below hb)
  clear hr hb
  have hr := X.r1
  go_wp2_with fail
  refine (LD.out _ H2.out.1 (HX.out.below X.1)).mono ?_
  rintro e w2 ⟨rfl, hb⟩
  replace X := X.to hb
  have H3 := hide (H2.out.below hb)
  clear hr hb
  have hr := X.r1
  have XH := hide X
  rw [← K0.out]
  clear X
  go_wp2
  clear hr
  go_loopw [4, 16] (fun v4 v16 wr => ∃ k : Nat, k ≤ T.rows.length ∧ v16 = .int .i64 k ∧ v4 = strV (txK T k) ∧ Hid (Own w wr [(w.heap.size, 25, #[.slice A1 T.ds.length c1, .slice A2 T.ps.length c2, .slice A3 T.rows.length c3])]) ∧ Hid (TabSl wr T ⟨A1, A2, A3, c1, c2, c3⟩)) (fun _ v16 _ => T.rows.length - (intOf v16).toNat)
  case atStart => exact ⟨0, Nat.zero_le _, rfl, rfl, XH, H3⟩
  case round =>
    obtain ⟨k, hk, rfl, rfl, HO, HT⟩ := hrel
    by_cases hlt : k < T.rows.length
    · obtain ⟨b, off, e3, hbl, hat⟩ := HT.out.2.2.1.2 (by omega)
      obtain ⟨R, c, c0, hR, hRc⟩ := hat k hlt
      obtain ⟨b2, off2, e2, hbl2, hat2⟩ := HT.out.2.1.2 (by omega)
      have d0 := hat2 k (by omega)
      have hk2 : k < T.ps.length := by omega
      rw [show T.ps[k] = T.ps.getD k 0 by simp [hk2]] at d0
      have hr1 : (T.rows.getD k []).length ≤ T.ds.length := by rw [RW.out k hk2]; exact Nat.le_refl _
      have hr2 : T.ds.length ≤ (T.rows.getD k []).length := by rw [RW.out k hk2]; exact Nat.le_refl _
      have rn := RN.out (T.ps.getD k 0 :: T.rows.getD k []) (by simp only [rowsOf, List.mem_cons]; right; rw [List.mem_iff_getElem]; exact ⟨k, by simp; omega, by simp [hlt, hk2]⟩)
      have nx : numR (T.ps.getD k 0) := rn.2.1 _ (List.mem_cons_self ..)
      have KK := hide (KS.out k hlt hk2)
      have kl := KL.out k
      have hr := HO.out.r1
      have LN : Hid (∀ W A cap, IntSl W A (T.ps.getD k 0 :: T.rows.getD k []) → TxtW W → Calls Tryz.prog 26 #[.string ⟨#[112, 101, 114, 105, 111, 100]⟩, .slice A ((T.rows.getD k []).length + 1) cap] W (RetV (strV (ln (wdA 1) (T.ps.getD k 0 :: T.rows.getD k []) ++ [10])) W)) :=
        hide (fun W A cap h h2 => line_any (wdA 1) (T.ps.getD k 0 :: T.rows.getD k []) A cap W h h2 rn.2.1 (by have := (wdA_no 1).2.2; omega) (by simp only [List.length_cons]; omega))
      have lnl := ln_len (wdA 1) (T.ps.getD k 0 :: T.rows.getD k []) rn.2.1
      have wl := (wdA_no 1).2.2
      rw [List.length_cons] at lnl
      have XB := hide (fun W (h : Below wr.heap.size wr W) => HX.out.below (below_via HO.out.1 HO.out.1.size h))
      have KC := hide (fun W (h : Below wr.heap.size wr W) => And.intro ((h.cell (p := ⟨w.heap.size, 1, none⟩) hr.2.2).trans (hr.1 1)) ((h.cell (p := ⟨b2, off2 + k, none⟩) hbl2).trans d0))
      have CL := hide (fun W (hW : Below wr.heap.size wr W) => cloneG_any (T.rows.getD k []) R c W (hR.below hW) (by omega) (by omega))
      have b0 : b2 < wr.heap.size := hbl2
      have b1 : w.heap.size < wr.heap.size := hr.2.2
      have rn2 := fun n h => rn.2.1 n (List.mem_cons_of_mem _ h)
      clear hat hat2 rn hR hRc
      subst e3 e2
      generalize T.ps.getD k 0 = p at *
      generalize T.rows.getD k [] = row at *
      have lnl2 : (ln (wdA 1) (p :: row) ++ [10]).length ≤ 9 + 22 * 101 + 1 := by simp only [List.length_append, List.length_singleton]; omega
      clear lnl wl
      generalize ln (wdA 1) (p :: row) ++ [10] = rl at *
      generalize txK T k = z at *
      have k1 : (⟨z.toArray⟩ : ByteArray) ++ ⟨rl.toArray⟩ = ⟨(z ++ rl).toArray⟩ := ba_append z rl
      have l2 : ¬ 9223372036854775807 < z.length + rl.length := by omega
      go_wp2_with fail
      have rw0 : 0 < row.length := by omega
      have rw9 : row.length ≤ 999 := by omega
      go_region_held3 (fun w' => w'.cell? ⟨w.heap.size, 1, none⟩ = some (.slice (some ⟨b2, off2, none⟩) T.ps.length c2) ∧ w'.cell? ⟨b2, off2 + k, none⟩ = some (.int .i64 p)) (go_keep)
        (first
          | (go_at_call 25; ((with_reducible refine Calls.mono (CL.out _ (by go_grown)) ?_); rintro e w3 ⟨g, cc, cur, rfl, hg1, hB, hc1, hc2, hc3, hc4, hb⟩); have hg2 := hB.lt; have hg1s := hg1; (try simp only [drewSz, World.size_alloc] at hg1s); have hg3 : wr.heap.size ≤ g := (by first | exact hg1 | (simp at hg1; omega)); have hb3 := below_via (show Below wr.heap.size wr _ from by go_grown) (by first | exact Nat.le_refl _ | (simp; done) | omega) hb; obtain ⟨q1, q2⟩ := KC.out _ hb3)
          | (go_at_call 27; ((with_reducible refine Calls.mono (insH_any wr.heap.size row g cc _ cur p _ rw0 rw9 (by first | exact hB | exact hB.alloc _ | exact (hB.drew).alloc _) hc1 hc2 hc3 hc4 (by first | exact Blk.new _ _ _ | exact Blk.new (World.drew _) _ _ | exact (Blk.new _ _ _).below hb (by simp) | exact (Blk.new (World.drew _) _ _).below hb (by simp)) (by omega) hg3 nx rn2) ?_); rintro e w5 ⟨A', c', rfl, hI, hb5⟩); have hb6 := (show Below wr.heap.size wr _ from (by go_grown)).trans hb5; obtain ⟨q3, q4⟩ := KC.out _ hb6)
          | (go_at_call 26; ((with_reducible refine Calls.mono (LN.out _ A' c' (by first | exact hI | exact hI.below (Below.refl _ _).drew) (XB.out _ (by go_grown))) ?_); rintro e w7 ⟨rfl, hb7⟩); have hb8 := below_via (show Below wr.heap.size wr _ from by go_grown) (by have := hb6.size; first | exact this | omega) hb7; obtain ⟨q5, q6⟩ := KC.out _ hb8)
          | (go_at_call 27; ((with_reducible refine Calls.mono (insH_any wr.heap.size row g cc _ cur p _ rw0 rw9 (by first | exact hB | exact hB.alloc _ | exact (hB.drew).alloc _) hc1 hc2 hc3 hc4 ((Blk.drew (Blk.new _ _ _)).below hb (by simp)) (by omega) hg3 nx rn2) ?_); rintro e w5 ⟨A', c', rfl, hI, hb5⟩); have hb6 := (show Below wr.heap.size wr _ from (by go_grown)).trans hb5; obtain ⟨q3, q4⟩ := KC.out _ hb6))
      all_goals
        have XO := hide (show Own w _ [(w.heap.size, 25, #[.slice A1 T.ds.length c1, .slice (some ⟨b2, off2, none⟩) T.ps.length c2, .slice (some ⟨b, off, none⟩) T.rows.length c3])] from HO.out.to hb8)
        have XT := hide (HT.out.below hb8)
        go_wp2
        go_roundw
        case rel => exact ⟨k + 1, by omega, by go_num, by rw [KK.out], XO, XT⟩
        case measure => simp [intOf]; omega
    · obtain rfl : k = T.rows.length := by omega
      have EE : Hid (txK T T.rows.length = ttR T ∧ ttE T = 0) := hide ⟨by rw [KE.out, E.out.1], E.out.2⟩
      go_wp2
      go_ret2
      exact ⟨by rw [← EE.out.1, EE.out.2]; rfl, HO.out.1⟩
theorem ittext_any (T : Tab) (a : TabA) (w : World) (ht : TabSl w T a) (hx : TxtW w) : Calls Tryz.prog 10 #[T.val a] w (TtPost T w) := ittext_any0 T a.A1 a.A2 a.A3 a.c1 a.c2 a.c3 w ht hx
end Go.Proofs.YtnhimgabcljahaaGreatDoor
