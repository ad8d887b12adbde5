/- The reference's Parse of a record: what it returns; nothing that was there is turned. (Printed by gen_ggrp.py.) -/
import Derived.Test.YtkjndkeboeieoaaGreatDoorPkGaugeTexts2
import Derived.Test.YtkjndkeboeieoaaGreatDoorPkGaugeBack8
import Derived.Test.YtkjndkeboeieoaaGreatDoorPkGaugeBack5
import Derived.Test.YtkjndkeboeieoaaGreatDoorPkGaugeBack4
namespace Go.Proofs.YtkjndkeboeieoaaGreatDoor
open Go Go.RowKit

set_option maxRecDepth 100000 in
set_option maxHeartbeats 8000000 in
theorem rparse_any (s : List UInt8) (w : World) (hs : s.length ≤ 900000) : Calls Tryz.prog 11 #[strV s] w (RpPost s w) := by
  have hs2 : (⟨s.toArray⟩ : ByteArray).size = s.length := by simp [ByteArray.size]
  have X := (Own.start w).alloc #[.int .i64 0, .int .i64 0, .slice none 0 0] 24
  have hr := X.r1
  by_cases hbig : 262144 < s.length
  · have E : Hid (prG s = (S0, 0, 4)) := hide (by unfold prG; rw [if_pos hbig])
    have q1 : decide ((262144 : Int) < (s.length : Int)) = true := decide_eq_true (by omega)
    clear hbig
    go_enter Tryz.func11, Tryz.ntmps11
    go_wp2
    exact bodyPost_ret (v := .tuple #[.agg #[.int .i64 0, .int .i64 0, .slice none 0 0], .int .i64 0, .int .i64 4]) (by simp [results, Tryz.results11, hr, go_sem]) rfl (RpPost.err (by have HX := X.1; have hz := HX.size; go_grown) E.out)
  have q1 : decide ((262144 : Int) < (s.length : Int)) = false := decide_eq_false (by omega)
  have EF : prG s = prGL (lns s) 0 S0 := by unfold prG; rw [if_neg hbig]
  have sl : s.length ≤ 262144 := by omega
  clear hbig
  have LN := hide (fun W => rlines_l s W (by omega))
  have nB := hide (lnB_length s)
  have nb : (lns s).length ≤ 262145 := by have := lns_length s; omega
  by_cases h0 : (lns s).length = 0
  · have E : Hid (prG s = (S0, 1, 7)) := hide (by rw [EF, List.eq_nil_of_length_eq_zero h0]; rfl)
    have q2 : (((lnB s).length : Int) == 0) = true := beq_iff_eq.2 (by have := nB.out; omega)
    clear EF h0 nB nb
    go_enter Tryz.func11, Tryz.ntmps11
    go_wp2_with fail
    with_reducible refine Calls.mono (LN.out _) ?_
    rintro e w1 ⟨hb, A, cA, rfl, hrow⟩
    replace X := X.to hb
    clear hb hr hrow
    have hr := X.r1
    go_wp2
    exact bodyPost_ret (v := .tuple #[.agg #[.int .i64 0, .int .i64 0, .slice none 0 0], .int .i64 1, .int .i64 7]) (by simp [results, Tryz.results11, hr, go_sem]) rfl (RpPost.err (by have HX := X.1; have hz := HX.size; go_grown) E.out)
  have h1 : 0 < (lns s).length := by omega
  have q2 : (((lnB s).length : Int) == 0) = false := beq_eq_false_iff_ne.2 (by have := nB.out; omega)
  have q2b : (0 : Int) < ((lnB s).length : Int) := by have := nB.out; omega
  have q2c : 0 < (lnB s).length := by omega
  have tl := tlB_len s 0
  have WD := hide (fun W => words_l (tlB s 0) W (by omega))
  have R0B := hide (fun h => EF.trans (rp0_bad (s := s) h1 h))
  have R0K := hide (fun a b h k => EF.trans (rp0_ok (s := s) (a := a) (b := b) h1 h k))
  clear EF h0
  by_cases h5 : (pts 32 (tlB s 0)).length = 5
  case neg =>
    have E := hide (R0B.out (.inl (hdO_len h5)))
    clear R0B R0K
    go_enter Tryz.func11, Tryz.ntmps11
    go_wp2_with fail
    with_reducible refine Calls.mono (LN.out _) ?_
    rintro e w1 ⟨hb, A, cA, rfl, hrow⟩
    replace X := X.to hb
    obtain ⟨gl, ol, cl, curL, hA, hgl, hBL, hcl, hcell⟩ := row_strs hrow (by rw [lnB_length]; omega)
    injection hA with hA _ hc
    subst hA hc
    have CELL : Hid (∀ W, Blk W gl 9 curL → ∀ i, i < (lnB s).length → W.cell? ⟨gl, ol + i, none⟩ = some (strV (tlB s i))) := hide (fun W h i hi => by rw [hcell W h i hi, tlB_get hi])
    have c0 := CELL.out w1 hBL 0 (by rw [lnB_length]; omega)
    rw [Nat.add_zero] at c0
    have X2 : Own w w1 [(w.heap.size, 24, #[.int .i64 0, .int .i64 0, .slice none 0 0]), (gl, 9, curL)] := ⟨X.1, fun x hx => by
      rcases List.mem_cons.1 hx with rfl | hx
      · exact X.2 _ (List.mem_cons_self ..)
      · rw [List.mem_singleton.1 hx]; exact hBL⟩
    clear hb hr hrow hBL hcell X LN
    replace X := X2
    clear X2
    have hr := X.r1
    generalize tlB s 0 = t0 at *
    have pl := pts_length 32 t0
    generalize pts 32 t0 = ws at *
    have q3 : ((ws.length : Int) == 5) = false := beq_eq_false_iff_ne.2 (by omega)
    have q4 : ((ws.length : Int) != 5) = true := by rw [bne, q3]; rfl
    clear h5
    go_wp2_with fail
    with_reducible refine Calls.mono (WD.out _) ?_
    rintro e w2 ⟨hb, A2, cw, rfl, hrow⟩
    replace X := X.to hb
    clear hb hr hrow WD
    have hr := X.r1
    go_wp2
    exact bodyPost_ret (v := .tuple #[.agg #[.int .i64 0, .int .i64 0, .slice none 0 0], .int .i64 1, .int .i64 7]) (by simp [results, Tryz.results11, hr, go_sem]) rfl (RpPost.err (by have HX := X.1; have hz := HX.size; go_grown) E.out)
  have PL := hide (fun p (hp : p ∈ pts 32 (tlB s 0)) => pts_len p hp)
  obtain ⟨a, b, c, d, e5, hp⟩ := five h5
  have EH := hide (hdO_five hp)
  rw [hp] at WD PL
  have la := PL.out a (by simp)
  have lb := PL.out b (by simp)
  have lc := PL.out c (by simp)
  have ld := PL.out d (by simp)
  have le := PL.out e5 (by simp)
  clear hp h5 PL
  have N1 := hide (fun W => rint_l e5 W (by omega))
  have K1 := hide (fun W => rckparse_l (b ++ 32 :: c) W (by simp; omega))
  have rn := rvI_nn e5
  have rb := rvI_lt e5
  have HB := hide (fun t st h => hd_back (l := tlB s 0) (t := t) (st := st) h)
  have key : (prG s = (S0, 1, 7) ∧ (a == [114, 97, 105, 110]) = false) ∨ (prG s = (S0, 1, 7) ∧ (a == [114, 97, 105, 110]) = true ∧ (d == [115, 116, 101, 112]) = false) ∨
      ((a == [114, 97, 105, 110]) = true ∧ (d == [115, 116, 101, 112]) = true ∧ prG s = (S0, 1, 7) ∧ (((lnB s).length : Int) == 1) = true ∧ enB s = false) ∨
      ((a == [114, 97, 105, 110]) = true ∧ (d == [115, 116, 101, 112]) = true ∧ Hid ((¬ ((ckV (b ++ 32 :: c)).2 = 0 ∧ 0 ≤ rvI e5) → prG s = (S0, 1, 7)) ∧ ((ckV (b ++ 32 :: c)).2 = 0 ∧ 0 ≤ rvI e5 → prG s = prGL ((lns s).drop 1) 1 ⟨(ckV (b ++ 32 :: c)).1, rvI e5, []⟩ ∧ -68719476736 ≤ (ckV (b ++ 32 :: c)).1 ∧ (ckV (b ++ 32 :: c)).1 ≤ 68719476736)) ∧ (((((lnB s).length : Int) == 1) = true ∧ enB s = true) ∨ (((lnB s).length : Int) == 1) = false)) := by
    by_cases h1 : a = [114, 97, 105, 110]
    case neg => exact .inl ⟨R0B.out (.inl (by rw [EH.out, if_neg (fun h => h1 h.1)])), by simpa using h1⟩
    by_cases h2 : d = [115, 116, 101, 112]
    case neg => exact .inr (.inl ⟨R0B.out (.inl (by rw [EH.out, if_neg (fun h => h2 h.2.1)])), by simpa using h1, by simpa using h2⟩)
    have p1 : (a == [114, 97, 105, 110]) = true := by simpa using h1
    have p2 : (d == [115, 116, 101, 112]) = true := by simpa using h2
    by_cases h3 : (lns s).length = 1 ∧ enB s = false
    · exact .inr (.inr (.inl ⟨p1, p2, R0B.out (.inr h3), beq_iff_eq.2 (by have := nB.out; omega), h3.2⟩))
    refine .inr (.inr (.inr ⟨p1, p2, hide ⟨fun h => R0B.out (.inl ?_), fun h => ?_⟩, ?_⟩))
    · rw [EH.out, if_neg]
      intro k
      exact h ⟨k.2.2.1, rn.1.2 k.2.2.2⟩
    · have hv := rn.1.1 h.2
      have e : hdO (tlB s 0) = some ((ckV (b ++ 32 :: c)).1, rvI e5) := by
        rw [EH.out, if_pos ⟨h1, h2, h.1, hv⟩]
        unfold rvI
        rw [if_pos hv]
      exact ⟨R0K.out _ _ e h3, (HB.out _ _ e).1⟩
    · by_cases h4 : (lns s).length = 1
      · refine .inl ⟨beq_iff_eq.2 (by have := nB.out; omega), ?_⟩
        cases hc : enB s with
        | true => rfl
        | false => exact absurd ⟨h4, hc⟩ h3
      · exact .inr (beq_eq_false_iff_ne.2 (by have := nB.out; omega))
  have KEY := hide key
  clear key EH R0B R0K HB
  obtain ⟨L1, hL1⟩ : ∃ L1, b ++ [32] = L1 := ⟨_, rfl⟩
  have e1 : b ++ 32 :: c = L1 ++ c := by rw [← hL1]; simp
  have l1 : L1.length = b.length + 1 := by rw [← hL1]; simp
  rw [e1] at K1 KEY
  obtain ⟨L2, hL2⟩ : ∃ L2, L1 ++ c = L2 := ⟨_, rfl⟩
  have d1 : (⟨b.toArray⟩ : ByteArray) ++ ⟨#[32]⟩ = ⟨L1.toArray⟩ := (ba_append b [32]).trans (by rw [hL1])
  have d2 : (⟨L1.toArray⟩ : ByteArray) ++ ⟨c.toArray⟩ = ⟨L2.toArray⟩ := (ba_append L1 c).trans (by rw [hL2])
  have m1 : ¬ 9223372036854775807 < b.length + 1 := by omega
  have m2 : ¬ 9223372036854775807 < L1.length + c.length := by omega
  rw [hL2] at K1 KEY
  generalize rvI e5 = sp at *
  generalize (ckV L2).1 = f at *
  generalize (ckV L2).2 = er at *
  clear e1 l1 hL1 hL2 rn
  go_enter Tryz.func11, Tryz.ntmps11
  go_wp2_with fail
  with_reducible refine Calls.mono (LN.out _) ?_
  rintro e w1 ⟨hb, A, cA, rfl, hrow⟩
  replace X := X.to hb
  obtain ⟨gl, ol, cl, curL, hA, hgl, hBL, hcl, hcell⟩ := row_strs hrow (by rw [lnB_length]; omega)
  injection hA with hA _ hc
  subst hA hc
  have CELL : Hid (∀ W, Blk W gl 9 curL → ∀ i, i < (lnB s).length → W.cell? ⟨gl, ol + i, none⟩ = some (strV (tlB s i))) := hide (fun W h i hi => by rw [hcell W h i hi, tlB_get hi])
  have c0 := CELL.out w1 hBL 0 (by rw [lnB_length]; omega)
  rw [Nat.add_zero] at c0
  have X2 : Own w w1 [(w.heap.size, 24, #[.int .i64 0, .int .i64 0, .slice none 0 0]), (gl, 9, curL)] := ⟨X.1, fun x hx => by
    rcases List.mem_cons.1 hx with rfl | hx
    · exact X.2 _ (List.mem_cons_self ..)
    · rw [List.mem_singleton.1 hx]; exact hBL⟩
  clear hb hr hrow hBL hcell X LN
  replace X := X2
  clear X2
  have hr := X.r1
  generalize tlB s 0 = t0 at WD c0 tl la lb lc ld le
  go_wp2_with fail
  with_reducible refine Calls.mono (WD.out _) ?_
  rintro e w2 ⟨hb, A2, cw, rfl, hrow⟩
  replace X := X.to hb
  obtain ⟨g, off, cg, curW, hA, hgw, hBW, hcw, hcell⟩ := row_strs hrow (by simp)
  injection hA with hA _ hc
  subst hA hc
  have hbl := hBW.lt
  have c0 := hcell w2 hBW 0 (by simp)
  have c1 := hcell w2 hBW 1 (by simp)
  have c2 := hcell w2 hBW 2 (by simp)
  have c3 := hcell w2 hBW 3 (by simp)
  have c4 := hcell w2 hBW 4 (by simp)
  simp only [List.getElem_cons_zero, List.getElem_cons_succ, Nat.add_zero] at c0 c1 c2 c3 c4
  simp only [List.length_cons, List.length_nil] at hcw
  clear hb hr hrow hBW hcell WD
  have hr := X.r1
  have hq : ∀ {x y : List UInt8} {o : Bool}, (x == y) = o → (x != y) = !o := fun h => by rw [bne, h]
  rcases KEY.out with ⟨E, p1⟩ | ⟨E, p1, p2⟩ | ⟨p1, p2, E, p3, p4⟩ | ⟨p1, p2, G, p3⟩
  · replace E := hide E
    have p6 := hq p1
    simp only [Bool.not_false] at p6
    clear KEY hq CELL N1 K1
    go_wp2
    exact bodyPost_ret (v := .tuple #[.agg #[.int .i64 0, .int .i64 0, .slice none 0 0], .int .i64 1, .int .i64 7]) (by simp [results, Tryz.results11, hr, go_sem]) rfl (RpPost.err (by have HX := X.1; have hz := HX.size; go_grown) E.out)
  · replace E := hide E
    have p6 := hq p1
    have p7 := hq p2
    simp only [Bool.not_false, Bool.not_true] at p6 p7
    clear KEY hq CELL N1 K1
    go_wp2
    exact bodyPost_ret (v := .tuple #[.agg #[.int .i64 0, .int .i64 0, .slice none 0 0], .int .i64 1, .int .i64 7]) (by simp [results, Tryz.results11, hr, go_sem]) rfl (RpPost.err (by have HX := X.1; have hz := HX.size; go_grown) E.out)
  · replace E := hide E
    have p6 := hq p1
    have p7 := hq p2
    simp only [Bool.not_true] at p6 p7
    clear KEY hq CELL N1 K1
    rw [p4] at *
    clear p4
    go_wp2
    exact bodyPost_ret (v := .tuple #[.agg #[.int .i64 0, .int .i64 0, .slice none 0 0], .int .i64 1, .int .i64 7]) (by simp [results, Tryz.results11, hr, go_sem]) rfl (RpPost.err (by have HX := X.1; have hz := HX.size; go_grown) E.out)
  have p6 := hq p1
  have p7 := hq p2
  simp only [Bool.not_true] at p6 p7
  clear KEY hq
  have EN : ∃ en, enB s = en ∧ ((((lnB s).length : Int) == 1) = true ∧ (!en) = false ∨ (((lnB s).length : Int) == 1) = false) := ⟨_, rfl, p3.imp (fun h => ⟨h.1, by rw [h.2]; rfl⟩) id⟩
  clear p3
  obtain ⟨en, hen, p3⟩ := EN
  rw [hen]
  have HEN := hide hen
  clear hen
  have NE : Nonempty (OwnW w2 []) := ⟨⟨_, Own.start w2⟩⟩
  have HX := hide X
  have D1 := fun y : OwnW w2 [] => (y.own.1.cell (p := ⟨g, off + 1, none⟩) hbl).trans c1
  have D2 := fun y : OwnW w2 [] => (y.own.1.cell (p := ⟨g, off + 2, none⟩) hbl).trans c2
  rcases p3 with ⟨p3, p4⟩ | p3
  · skip
    go_wp2_with fail
    refine wp_region_own (w := w2) (L := []) (by kernel_rfl) (by kernel_rfl) (Own.start w2) ?_
    repeat (go_big_quiet_step ((rename_i y; with_reducible exact own_call (K1.out _))))
    refine wpQuiet_nil ?_
    rintro W ⟨⟨W, HO⟩, rfl⟩
    have HB := hide HO.1
    have c4' := (HB.out.cell (p := ⟨g, off + 4, none⟩) hbl).trans c4
    replace X := HX.out.to HB.out
    clear hr HO D1 D2 NE HX c0 c1 c2 c3 c4 HB K1
    have hr := X.r1
    go_wp2_with fail
    with_reducible refine Calls.mono (N1.out _) ?_
    rintro e w3 ⟨rfl, rfl⟩
    clear N1 c4' hbl
    by_cases z1 : er = 0
    case neg =>
      have E := hide (G.out.1 (fun h => z1 h.1))
      have q5 : (er == 0) = false := by simpa using z1
      have q6 : (er != 0) = true := by rw [bne, q5]; rfl
      clear G CELL
      go_wp2
      exact bodyPost_ret (v := .tuple #[.agg #[.int .i64 0, .int .i64 0, .slice none 0 0], .int .i64 1, .int .i64 7]) (by simp [results, Tryz.results11, hr, go_sem]) rfl (RpPost.err (by have HX := X.1; have hz := HX.size; go_grown) E.out)
    subst z1
    by_cases z2 : 0 ≤ sp
    case neg =>
      have E := hide (G.out.1 (fun h => z2 h.2))
      have q5 : decide (sp < 0) = true := decide_eq_true (by omega)
      clear G CELL
      go_wp2
      exact bodyPost_ret (v := .tuple #[.agg #[.int .i64 0, .int .i64 0, .slice none 0 0], .int .i64 1, .int .i64 7]) (by simp [results, Tryz.results11, hr, go_sem]) rfl (RpPost.err (by have HX := X.1; have hz := HX.size; go_grown) E.out)
    have q5 : decide (sp < 0) = false := decide_eq_false (by omega)
    have G2 := G.out.2 ⟨rfl, z2⟩
    have fb := G2.2
    have HP0 := hide G2.1
    clear G G2
    go_wp2
    have X2 := X.alloc #[.int .i64 f, .int .i64 sp, .slice none 0 0] 24
    have hgl2 : gl < W.heap.size := X.r2.2.2.2
    have hbW : w.heap.size < W.heap.size := X.r1.2.2
    clear X hr
    generalize hoo : W.heap.size = o at *
    have hW1 : (W.alloc (Obj.cells #[.int .i64 f, .int .i64 sp, .slice none 0 0] 24)).heap.size = o + 1 := by rw [← hoo]; simp
    generalize hW : W.alloc (Obj.cells #[.int .i64 f, .int .i64 sp, .slice none 0 0] 24) = W1 at *
    clear hW hoo
    have G0 : Gat w W1 (o + 1) o f sp [(w.heap.size, 24, #[.int .i64 0, .int .i64 0, .slice none 0 0]), (gl, 9, curL)] [] (.slice none 0 0) 0 [] := by
      refine ⟨X2, World.ownsRow_nil _ _ _ _, fun p hp => by simp at hp, ⟨by omega, by omega, by omega⟩, ?_, ?_⟩
      · intro x hx
        simp only [List.mem_cons, List.not_mem_nil, or_false] at hx
        rcases hx with rfl | rfl
        · show (3 : TypeId) ≠ 24; decide
        · show (3 : TypeId) ≠ 9; decide
      · intro x hx
        simp only [List.mem_cons, List.not_mem_nil, or_false] at hx
        rcases hx with rfl | rfl
        · show w.heap.size ≠ o; omega
        · show gl ≠ o; omega
    have GH := hide G0
    clear G0 X2 hW1
    obtain ⟨i0, hi0, hz0, hz1, hz2⟩ := info_parts int_info17
    have nB2 : (lns s).length = (lnB s).length := nB.out.symm
    have nb2 : (lnB s).length ≤ 262145 := by omega
    clear tl la lb lc ld le m1 m2 d1 d2 p1 p2 p6 p7 nB nb
    rw [nB2] at h1
    generalize hN : (lnB s).length = n at *
    clear hN
    have NB := hide nB2
    clear nB2
    have s1 : IntKind.i64.wrap ((n : Int) - 1) = (n : Int) - 1 := IntWalk.i64_in _ (by omega)
    clear q1 q2 q2b q2c q5 sl hs2 hcl hcw hgw hgl
    have n1 : n = 1 := by have := (beq_iff_eq (a := (n : Int)) (b := 1)).1 p3; omega
    clear p3 p4
    go_loopw [12, 13, 14, 15, 16] (fun v12 v13 v14 v15 v16 wr => ∃ (i : Nat) (v : Value) (L : List Int), 1 ≤ i ∧ i ≤ n ∧ L.length ≤ 12 * i ∧ v12 = .int .i64 (i : Int) ∧ Hid (prG s = prGL ((lns s).drop i) i ⟨f, sp, L⟩) ∧ Hid (∀ x ∈ L, depR x) ∧ Hid (Gat w wr (o + 1) o f sp [(w.heap.size, 24, #[.int .i64 0, .int .i64 0, .slice none 0 0]), (gl, 9, curL)] [] v L.length L)) (fun v12 _ _ _ _ _ => n - (intOf v12).toNat)
    case atStart => exact ⟨1, .slice none 0 0, [], Nat.le_refl _, by omega, by simp, rfl, HP0, hide (fun x hx => by simp at hx), GH⟩
    case round =>
      obtain ⟨i, v, L, hi1, hi2, hL, rfl, HP, HD, Y⟩ := hrel
      clear GH HP0
      by_cases hlt : i < n
      · omega
      · obtain rfl : i = n := by omega
        have EF := HP.out.trans (rp_fin (s := s) (a := ⟨f, sp, L⟩) hi1 (by rw [NB.out]; exact Nat.le_refl _))
        obtain ⟨A5, c5, rfl, hi⟩ := IntSl.of_row Y.out.row (by omega) (fun j hj => by have := HD.out _ (List.getElem_mem hj); unfold depR at this; omega)
        obtain ⟨A', c', e', hc⟩ := row_anyG Y.out.row
        injection e' with e1 _ e3
        subst e1 e3
        have hsl : SerSl wr ⟨f, sp, L⟩ ⟨A5, c5⟩ := ⟨hi, hc, ⟨by show _ ≤ f; omega, by show f ≤ _; omega⟩, ⟨by show _ ≤ sp; omega, by show sp ≤ _; omega⟩⟩
        have V := hide (rfvalid17_any ⟨f, sp, L⟩ ⟨A5, c5⟩ wr hsl)
        have hr := Y.out.own.r2
        clear hc hi hsl HP
        cases hv : vS ⟨f, sp, L⟩ with
        | true =>
          rw [hv, if_pos rfl] at EF
          rw [hv] at V
          replace EF := hide EF
          clear hv
          go_wp2_with fail
          with_reducible refine Calls.mono V.out ?_
          rintro e w5 ⟨rfl, hb⟩
          have PO := hide (fun x y z => (Y.out.to hb).post (rb := w.heap.size) (cs := #[.int .i64 0, .int .i64 0, .slice none 0 0]) (List.mem_cons_self ..) (Nat.le_refl _) x y z (fun u hu => by have := HD.out u hu; unfold depR at this; omega) (by omega) (by omega) (by omega))
          have X := (Y.out.to hb).own
          clear hr hb V Y
          have hr := X.r2
          go_wp2
          refine bodyPost_ret (v := .tuple #[.agg #[.int .i64 f, .int .i64 sp, .slice A5 L.length c5], .int .i64 0, .int .i64 0]) ?_ rfl ?_
          · simp [results, Tryz.results11, hr, go_sem]
          · exact SerPost.three (PO.out _ _ _) EF.out
        | false =>
          rw [hv, if_neg (by decide)] at EF
          rw [hv] at V
          replace EF := hide EF
          clear hv
          go_wp2_with fail
          with_reducible refine Calls.mono V.out ?_
          rintro e w5 ⟨rfl, hb⟩
          have X := (Y.out.to hb).own
          clear hr hb V Y
          have hr := X.r2
          go_wp2
          exact bodyPost_ret (v := .tuple #[.agg #[.int .i64 0, .int .i64 0, .slice none 0 0], .int .i64 0, .int .i64 1]) (by simp [results, Tryz.results11, hr, go_sem]) rfl (RpPost.err (by have HX := X.1; have hz := HX.size; go_grown) EF.out)
  · skip
    go_wp2_with fail
    refine wp_region_own (w := w2) (L := []) (by kernel_rfl) (by kernel_rfl) (Own.start w2) ?_
    repeat (go_big_quiet_step ((rename_i y; with_reducible exact own_call (K1.out _))))
    refine wpQuiet_nil ?_
    rintro W ⟨⟨W, HO⟩, rfl⟩
    have HB := hide HO.1
    have c4' := (HB.out.cell (p := ⟨g, off + 4, none⟩) hbl).trans c4
    replace X := HX.out.to HB.out
    clear hr HO D1 D2 NE HX c0 c1 c2 c3 c4 HB K1
    have hr := X.r1
    go_wp2_with fail
    with_reducible refine Calls.mono (N1.out _) ?_
    rintro e w3 ⟨rfl, rfl⟩
    clear N1 c4' hbl
    by_cases z1 : er = 0
    case neg =>
      have E := hide (G.out.1 (fun h => z1 h.1))
      have q5 : (er == 0) = false := by simpa using z1
      have q6 : (er != 0) = true := by rw [bne, q5]; rfl
      clear G CELL
      go_wp2
      exact bodyPost_ret (v := .tuple #[.agg #[.int .i64 0, .int .i64 0, .slice none 0 0], .int .i64 1, .int .i64 7]) (by simp [results, Tryz.results11, hr, go_sem]) rfl (RpPost.err (by have HX := X.1; have hz := HX.size; go_grown) E.out)
    subst z1
    by_cases z2 : 0 ≤ sp
    case neg =>
      have E := hide (G.out.1 (fun h => z2 h.2))
      have q5 : decide (sp < 0) = true := decide_eq_true (by omega)
      clear G CELL
      go_wp2
      exact bodyPost_ret (v := .tuple #[.agg #[.int .i64 0, .int .i64 0, .slice none 0 0], .int .i64 1, .int .i64 7]) (by simp [results, Tryz.results11, hr, go_sem]) rfl (RpPost.err (by have HX := X.1; have hz := HX.size; go_grown) E.out)
    have q5 : decide (sp < 0) = false := decide_eq_false (by omega)
    have G2 := G.out.2 ⟨rfl, z2⟩
    have fb := G2.2
    have HP0 := hide G2.1
    clear G G2
    go_wp2
    have X2 := X.alloc #[.int .i64 f, .int .i64 sp, .slice none 0 0] 24
    have hgl2 : gl < W.heap.size := X.r2.2.2.2
    have hbW : w.heap.size < W.heap.size := X.r1.2.2
    clear X hr
    generalize hoo : W.heap.size = o at *
    have hW1 : (W.alloc (Obj.cells #[.int .i64 f, .int .i64 sp, .slice none 0 0] 24)).heap.size = o + 1 := by rw [← hoo]; simp
    generalize hW : W.alloc (Obj.cells #[.int .i64 f, .int .i64 sp, .slice none 0 0] 24) = W1 at *
    clear hW hoo
    have G0 : Gat w W1 (o + 1) o f sp [(w.heap.size, 24, #[.int .i64 0, .int .i64 0, .slice none 0 0]), (gl, 9, curL)] [] (.slice none 0 0) 0 [] := by
      refine ⟨X2, World.ownsRow_nil _ _ _ _, fun p hp => by simp at hp, ⟨by omega, by omega, by omega⟩, ?_, ?_⟩
      · intro x hx
        simp only [List.mem_cons, List.not_mem_nil, or_false] at hx
        rcases hx with rfl | rfl
        · show (3 : TypeId) ≠ 24; decide
        · show (3 : TypeId) ≠ 9; decide
      · intro x hx
        simp only [List.mem_cons, List.not_mem_nil, or_false] at hx
        rcases hx with rfl | rfl
        · show w.heap.size ≠ o; omega
        · show gl ≠ o; omega
    have GH := hide G0
    clear G0 X2 hW1
    obtain ⟨i0, hi0, hz0, hz1, hz2⟩ := info_parts int_info17
    have nB2 : (lns s).length = (lnB s).length := nB.out.symm
    have nb2 : (lnB s).length ≤ 262145 := by omega
    clear tl la lb lc ld le m1 m2 d1 d2 p1 p2 p6 p7 p3 nB nb
    rw [nB2] at h1
    generalize hN : (lnB s).length = n at *
    clear hN
    have NB := hide nB2
    clear nB2
    have s1 : IntKind.i64.wrap ((n : Int) - 1) = (n : Int) - 1 := IntWalk.i64_in _ (by omega)
    clear q1 q2 q2b q2c q5 sl hs2 hcl hcw hgw hgl
    go_loopw [12, 13, 14, 15, 16] (fun v12 v13 v14 v15 v16 wr => ∃ (i : Nat) (v : Value) (L : List Int), 1 ≤ i ∧ i ≤ n ∧ L.length ≤ 12 * i ∧ v12 = .int .i64 (i : Int) ∧ Hid (prG s = prGL ((lns s).drop i) i ⟨f, sp, L⟩) ∧ Hid (∀ x ∈ L, depR x) ∧ Hid (Gat w wr (o + 1) o f sp [(w.heap.size, 24, #[.int .i64 0, .int .i64 0, .slice none 0 0]), (gl, 9, curL)] [] v L.length L)) (fun v12 _ _ _ _ _ => n - (intOf v12).toNat)
    case atStart => exact ⟨1, .slice none 0 0, [], Nat.le_refl _, by omega, by simp, rfl, HP0, hide (fun x hx => by simp at hx), GH⟩
    case round =>
      obtain ⟨i, v, L, hi1, hi2, hL, rfl, HP, HD, Y⟩ := hrel
      clear GH HP0
      by_cases hlt : i < n
      · have RB := hide (fun h => HP.out.trans (rp_bad (s := s) (a := ⟨f, sp, L⟩) hi1 (by rw [NB.out]; exact hlt) h))
        have RK := hide (fun a b c d => HP.out.trans (rp_ok (s := s) (a := ⟨f, sp, L⟩) hi1 (by rw [NB.out]; exact hlt) a b c d))
        have EQ := NB.out
        rw [EQ, HEN.out] at RB RK
        clear EQ HP
        have c0 := CELL.out wr (Y.out.own.2 (gl, 9, curL) (by simp)) i hlt
        have tl := tlB_len s i
        have WD := hide (fun W => words_l (tlB s i) W (by omega))
        have PL := hide (fun p (hp : p ∈ pts 32 (tlB s i)) => pts_len p hp)
        have pn := List.length_pos_iff.2 (pts_ne 32 (tlB s i))
        have pm := pts_length 32 (tlB s i)
        generalize tlB s i = t at *
        have i1 : IntKind.i64.wrap ((i : Int) + 1) = (i : Int) + 1 := IntWalk.i64_in _ (by omega)
        have WL := hide (fun j (hj : j < (pts 32 t).length) => (by
          rw [List.getD_eq_getElem?_getD, List.getElem?_eq_getElem hj]
          exact PL.out _ (List.getElem_mem hj) : ((pts 32 t).getD j []).length ≤ t.length))
        clear PL
        have key : ((i + 1 = n ∧ en = false) ∧ prG s = (S0, (i : Int) + 1, 7)) ∨ ((i + 1 = n ∧ en = true ∧ 12 < (pts 32 t).length) ∧ prG s = (S0, (i : Int) + 1, 7)) ∨ ((i + 1 ≠ n ∧ 12 < (pts 32 t).length) ∧ prG s = (S0, (i : Int) + 1, 7)) ∨ ((i + 1 ≠ n ∧ (pts 32 t).length < 12) ∧ prG s = (S0, (i : Int) + 1, 7)) ∨
            ((i + 1 = n ∧ en = true ∧ (pts 32 t).length ≤ 12) ∨ (i + 1 ≠ n ∧ (pts 32 t).length = 12)) := by
          by_cases k1 : i + 1 = n
          · cases en with
            | false => exact .inl ⟨⟨k1, rfl⟩, RB.out (.inl ⟨k1, rfl⟩)⟩
            | true =>
              by_cases k2 : 12 < (pts 32 t).length
              · exact .inr (.inl ⟨⟨k1, rfl, k2⟩, RB.out (.inr (.inl k2))⟩)
              · exact .inr (.inr (.inr (.inr (.inl ⟨k1, rfl, by omega⟩))))
          · by_cases k2 : 12 < (pts 32 t).length
            · exact .inr (.inr (.inl ⟨⟨k1, k2⟩, RB.out (.inr (.inl k2))⟩))
            · by_cases k3 : (pts 32 t).length = 12
              · exact .inr (.inr (.inr (.inr (.inr ⟨k1, k3⟩))))
              · exact .inr (.inr (.inr (.inl ⟨⟨k1, by omega⟩, RB.out (.inr (.inr (.inl ⟨k1, k3⟩)))⟩)))
        have KEY := hide key
        have RW := hide (fun j hj => RB.out (.inr (.inr (.inr ⟨j, hj⟩))))
        clear key RB CELL
        generalize pts 32 t = ws at *
        have hr := Y.out.own.r2
        have lk : ∃ la : Bool, ((i : Int) == (n : Int) - 1) = la ∧ (i + 1 = n → la = true) ∧ (i + 1 ≠ n → la = false) := ⟨_, rfl, fun h => beq_iff_eq.2 (by omega), fun h => beq_eq_false_iff_ne.2 (by omega)⟩
        obtain ⟨la, q3, la1, la2⟩ := lk
        have LA := hide (And.intro la1 la2)
        clear la1 la2
        go_wp2_with fail
        with_reducible refine Calls.mono (WD.out _) ?_
        rintro e w4 ⟨hb, A4, c4, rfl, hrow⟩
        have hX := hb
        replace Y := hide (Y.out.to hb)
        have HROW := hide hrow
        have GW := hide hr.1.2.2
        clear hr hrow WD hb hX q3 hi2
        have hr := Y.out.own.r2
        rcases KEY.out with ⟨⟨k1, rfl⟩, E⟩ | ⟨⟨k1, rfl, k2⟩, E⟩ | ⟨⟨k1, k2⟩, E⟩ | ⟨⟨k1, k2⟩, E⟩ | key
        · replace E := hide E
          obtain rfl := LA.out.1 k1
          clear KEY RW RK LA k1 hL
          have X := Y.out.own
          clear HROW Y GW
          go_wp2
          exact bodyPost_ret (v := .tuple #[.agg #[.int .i64 0, .int .i64 0, .slice none 0 0], .int .i64 ((i : Int) + 1), .int .i64 7]) (by simp [results, Tryz.results11, hr, go_sem]) rfl (RpPost.err (by have HX := X.1; have hz := HX.size; go_grown) E.out)
        · replace E := hide E
          obtain rfl := LA.out.1 k1
          have q4 : decide ((12 : Int) < (ws.length : Int)) = true := decide_eq_true (by omega)
          clear KEY RW RK LA k1 k2 hL
          have X := Y.out.own
          clear HROW Y GW
          go_wp2
          exact bodyPost_ret (v := .tuple #[.agg #[.int .i64 0, .int .i64 0, .slice none 0 0], .int .i64 ((i : Int) + 1), .int .i64 7]) (by simp [results, Tryz.results11, hr, go_sem]) rfl (RpPost.err (by have HX := X.1; have hz := HX.size; go_grown) E.out)
        · replace E := hide E
          obtain rfl := LA.out.2 k1
          have q4 : decide ((12 : Int) < (ws.length : Int)) = true := decide_eq_true (by omega)
          clear KEY RW RK LA k1 k2 hL
          have X := Y.out.own
          clear HROW Y GW
          go_wp2
          exact bodyPost_ret (v := .tuple #[.agg #[.int .i64 0, .int .i64 0, .slice none 0 0], .int .i64 ((i : Int) + 1), .int .i64 7]) (by simp [results, Tryz.results11, hr, go_sem]) rfl (RpPost.err (by have HX := X.1; have hz := HX.size; go_grown) E.out)
        · replace E := hide E
          obtain rfl := LA.out.2 k1
          have q4 : decide ((12 : Int) < (ws.length : Int)) = false := decide_eq_false (by omega)
          have q5 : ((ws.length : Int) == 12) = false := beq_eq_false_iff_ne.2 (by omega)
          have q6 : ((ws.length : Int) != 12) = true := by rw [bne, q5]; rfl
          clear KEY RW RK LA k1 k2 hL
          have X := Y.out.own
          clear HROW Y GW
          go_wp2
          exact bodyPost_ret (v := .tuple #[.agg #[.int .i64 0, .int .i64 0, .slice none 0 0], .int .i64 ((i : Int) + 1), .int .i64 7]) (by simp [results, Tryz.results11, hr, go_sem]) rfl (RpPost.err (by have HX := X.1; have hz := HX.size; go_grown) E.out)
        have hE : (i + 1 = n → en = true) ∧ ws.length ≤ 12 ∧ (i + 1 = n ∨ ws.length = 12) := by
          rcases key with ⟨a, b, c⟩ | ⟨a, b⟩
          · exact ⟨fun _ => b, c, .inl a⟩
          · exact ⟨fun h => absurd h a, by omega, .inr b⟩
        have m12 := hE.2.1
        have E2 := hide (RK.out hE.1 hE.2.1 hE.2.2)
        have key2 : (la = true ∧ (!en) = false) ∨ (la = false ∧ ((ws.length : Int) == 12) = true) := by
          by_cases h : i + 1 = n
          · exact .inl ⟨LA.out.1 h, by rw [hE.1 h]; rfl⟩
          · exact .inr ⟨LA.out.2 h, beq_iff_eq.2 (by have := hE.2.2; omega)⟩
        have q4 : decide ((12 : Int) < (ws.length : Int)) = false := decide_eq_false (by omega)
        have q6 : ((ws.length : Int) == 12) = true → ((ws.length : Int) != 12) = false := fun h => by rw [bne, h]; rfl
        clear KEY RK hE key LA
        rcases key2 with ⟨rfl, q5⟩ | ⟨rfl, q5⟩
        · clear q6
          obtain ⟨gw, ow, cgw, curW2, hA, hgw2, hBW, hcw2, hcell⟩ := row_strs HROW.out pn
          injection hA with hA _ hc
          subst hA hc
          have Y2 : Hid (Gat w w4 (o + 1) o f sp [(w.heap.size, 24, #[.int .i64 0, .int .i64 0, .slice none 0 0]), (gl, 9, curL), (gw, 9, curW2)] [] v L.length L) := hide (Y.out.more hBW (show (3 : TypeId) ≠ 9 by decide) (by have := GW.out; omega))
          have CW := hide hcell
          clear hr HROW hBW hcell Y GW hcw2 hgw2
          have hr := Y2.out.own.r2
          go_wp2
          clear hr q4 q5
          try clear q7
          go_loopw [15, 16] (fun v15 v16 wr => ∃ (k : Nat) (v2 : Value), k ≤ ws.length ∧ v15 = .int .i64 (k : Int) ∧ Hid (∀ j, j < k → wdB (ws.getD j []) = true) ∧ Hid (Gat w wr (o + 1) o f sp [(w.heap.size, 24, #[.int .i64 0, .int .i64 0, .slice none 0 0]), (gl, 9, curL), (gw, 9, curW2)] [] v2 (L.length + k) (L ++ (ws.take k).map wdV))) (fun v15 _ _ => ws.length - (intOf v15).toNat)
          case atStart => exact ⟨0, v, Nat.zero_le _, rfl, hide (fun j h => by omega), hide (by simpa using Y2.out)⟩
          case round =>
            obtain ⟨k, v2, hk, rfl, HW, Y3⟩ := hrel
            clear Y2
            by_cases hkl : k < ws.length
            · have c5 := CW.out wr (Y3.out.own.2 (gw, 9, curW2) (by simp)) k hkl
              have eg : ws[k] = ws.getD k [] := by rw [List.getD_eq_getElem?_getD, List.getElem?_eq_getElem hkl]; rfl
              rw [eg] at c5
              clear eg
              have xl := WL.out k hkl
              have IN := hide (fun W => rint_l (ws.getD k []) W (by omega))
              have TK := hide (take_wd hkl)
              have RWk := hide (fun h => RW.out k ⟨hkl, h⟩)
              have HW2 : Hid (wdB (ws.getD k []) = true → ∀ j, j < k + 1 → wdB (ws.getD j []) = true) := hide (fun h j hj => by
                by_cases e : j = k
                · rw [e]; exact h
                · exact HW.out j (by omega))
              have key3 : (decide (rvI (ws.getD k []) < 0) = true ∧ (ws.getD k [] == [45]) = false ∧ wdB (ws.getD k []) = false) ∨ (decide (rvI (ws.getD k []) < 0) = false ∧ wdB (ws.getD k []) = true ∧ wdV (ws.getD k []) = rvI (ws.getD k [])) ∨ (decide (rvI (ws.getD k []) < 0) = true ∧ (ws.getD k [] == [45]) = true ∧ wdB (ws.getD k []) = true ∧ wdV (ws.getD k []) = rvI (ws.getD k [])) := by
                have h1 := wd_rv (ws.getD k [])
                have h2 := (rvI_nn (ws.getD k [])).1
                generalize ws.getD k [] = x at *
                by_cases e : x = [45]
                · have h3 := h1.2 e
                  by_cases h4 : rvI x < 0
                  · exact .inr (.inr ⟨decide_eq_true h4, beq_iff_eq.2 e, h3⟩)
                  · exact .inr (.inl ⟨decide_eq_false h4, h3⟩)
                · have h3 := h1.1 e
                  by_cases h4 : rvI x < 0
                  · refine .inl ⟨decide_eq_true h4, beq_eq_false_iff_ne.2 e, ?_⟩
                    rw [h3.1]
                    cases hr : rvB x with
                    | true => have := h2.2 hr; omega
                    | false => rfl
                  · have hr := h2.1 (by omega)
                    exact .inr (.inl ⟨decide_eq_false h4, h3.1.trans hr, h3.2 hr⟩)
              generalize ws.getD k [] = x at *
              generalize rvI x = z at *
              rcases key3 with ⟨q7, q8, hB⟩ | ⟨q7, hB, hV⟩ | ⟨q7, q8, hB, hV⟩
              · have E := hide (RWk.out hB)
                have q9 : (x != [45]) = true := by rw [bne, q8]; rfl
                clear hB RWk RW HW HW2 TK E2
                have X := Y3.out.own
                have hr := X.r2
                go_wp2_with fail
                with_reducible refine Calls.mono (IN.out _) ?_
                rintro e w5 ⟨rfl, rfl⟩
                go_wp2
                exact bodyPost_ret (v := .tuple #[.agg #[.int .i64 0, .int .i64 0, .slice none 0 0], .int .i64 ((i : Int) + 1), .int .i64 7]) (by simp [results, Tryz.results11, hr, go_sem]) rfl (RpPost.err (by have HX := X.1; have hz := HX.size; go_grown) E.out)
              · have EB := hide hB
                have EV := hide hV
                clear hB hV RWk RW HW E2
                obtain ⟨A6, c6, rfl, -⟩ := row_anyG Y3.out.row
                have hr := Y3.out.own.r2
                have Y4 := hide (Y3.out.alloc (.cells #[.int .i64 z] 3))
                go_wp2_with fail
                with_reducible refine Calls.mono (IN.out _) ?_
                rintro e w5 ⟨rfl, rfl⟩
                go_wp2_with (at_builtin; refine wpList_append_own _ rfl _ _ 22 rfl (o + 1) 3 i0 (.int .i64 0) 1 8 Tryz.underlying22 hi0 hz0 hz1 hz2 rfl (by decide) _ (L.length + k) ((L ++ (ws.take k).map wdV).map (Value.int .i64)) rfl Y4.out.row ⟨wr.heap.size, 0, none⟩ 1 1 [.int .i64 z] rfl rfl (World.news_of_block (cs := #[.int .i64 z]) (t := 3) (fr := (0, 0)) (heap_alloc_new wr _)) (by simp [Value.oneCell']) (by unfold maxLen; omega) (by omega) Y4.out.b2.1 ?_; intro v6 w6 hown4 hgrow _; obtain ⟨A7, c7, rfl, -⟩ := row_anyG hown4; have hr4 := (Y4.out.grown hgrow).r2)
                have Y5 := hide (Y4.out.app (L4 := L ++ (ws.take (k + 1)).map wdV) (by rw [TK.out, EV.out, ← List.append_assoc, List.map_append]; exact hown4) hgrow)
                clear Y3 Y4 hown4 hgrow hr4 hr
                go_roundw
                case rel => exact ⟨k + 1, _, by omega, by go_num, hide (HW2.out EB.out), Y5⟩
                case measure => simp [intOf]; omega
              · have EB := hide hB
                have EV := hide hV
                have q9 : (x != [45]) = false := by rw [bne, q8]; rfl
                clear hB hV RWk RW HW E2
                obtain ⟨A6, c6, rfl, -⟩ := row_anyG Y3.out.row
                have hr := Y3.out.own.r2
                have Y4 := hide (Y3.out.alloc (.cells #[.int .i64 z] 3))
                go_wp2_with fail
                with_reducible refine Calls.mono (IN.out _) ?_
                rintro e w5 ⟨rfl, rfl⟩
                go_wp2_with (at_builtin; refine wpList_append_own _ rfl _ _ 22 rfl (o + 1) 3 i0 (.int .i64 0) 1 8 Tryz.underlying22 hi0 hz0 hz1 hz2 rfl (by decide) _ (L.length + k) ((L ++ (ws.take k).map wdV).map (Value.int .i64)) rfl Y4.out.row ⟨wr.heap.size, 0, none⟩ 1 1 [.int .i64 z] rfl rfl (World.news_of_block (cs := #[.int .i64 z]) (t := 3) (fr := (0, 0)) (heap_alloc_new wr _)) (by simp [Value.oneCell']) (by unfold maxLen; omega) (by omega) Y4.out.b2.1 ?_; intro v6 w6 hown4 hgrow _; obtain ⟨A7, c7, rfl, -⟩ := row_anyG hown4; have hr4 := (Y4.out.grown hgrow).r2)
                have Y5 := hide (Y4.out.app (L4 := L ++ (ws.take (k + 1)).map wdV) (by rw [TK.out, EV.out, ← List.append_assoc, List.map_append]; exact hown4) hgrow)
                clear Y3 Y4 hown4 hgrow hr4 hr
                go_roundw
                case rel => exact ⟨k + 1, _, by omega, by go_num, hide (HW2.out EB.out), Y5⟩
                case measure => simp [intOf]; omega
            · have hk2 : k = ws.length := by omega
              subst hk2
              have E3 := hide (E2.out (fun j hj => HW.out j hj))
              have HD2 : Hid (∀ x ∈ L ++ ws.map wdV, depR x) := hide (fun x hx => by
                rcases List.mem_append.1 hx with hx | hx
                · exact HD.out x hx
                · obtain ⟨y, hy, rfl⟩ := List.mem_map.1 hx
                  obtain ⟨j, hj, rfl⟩ := List.mem_iff_getElem.1 hy
                  have := HW.out j hj
                  rw [List.getD_eq_getElem?_getD, List.getElem?_eq_getElem hj] at this
                  exact ⟨wdV_bd _, wdV_lt this⟩)
              have Y6 : Hid (Gat w wr (o + 1) o f sp [(w.heap.size, 24, #[.int .i64 0, .int .i64 0, .slice none 0 0]), (gl, 9, curL)] [] v2 (L ++ ws.map wdV).length (L ++ ws.map wdV)) := hide (by
                have := Y3.out
                rw [List.take_length] at this
                rw [List.length_append, List.length_map]
                exact Gat.less (R2 := [(gw, 9, curW2)]) this)
              clear RW HW E2 HD Y3
              go_wp2
              go_roundw
              case rel => exact ⟨i + 1, v2, L ++ ws.map wdV, by omega, by omega, by rw [List.length_append, List.length_map]; omega, by go_num, E3, HD2, Y6⟩
              case measure => simp [intOf]; omega
        · have q7 := q6 q5
          clear q6
          obtain ⟨gw, ow, cgw, curW2, hA, hgw2, hBW, hcw2, hcell⟩ := row_strs HROW.out pn
          injection hA with hA _ hc
          subst hA hc
          have Y2 : Hid (Gat w w4 (o + 1) o f sp [(w.heap.size, 24, #[.int .i64 0, .int .i64 0, .slice none 0 0]), (gl, 9, curL), (gw, 9, curW2)] [] v L.length L) := hide (Y.out.more hBW (show (3 : TypeId) ≠ 9 by decide) (by have := GW.out; omega))
          have CW := hide hcell
          clear hr HROW hBW hcell Y GW hcw2 hgw2
          have hr := Y2.out.own.r2
          go_wp2
          clear hr q4 q5
          try clear q7
          go_loopw [15, 16] (fun v15 v16 wr => ∃ (k : Nat) (v2 : Value), k ≤ ws.length ∧ v15 = .int .i64 (k : Int) ∧ Hid (∀ j, j < k → wdB (ws.getD j []) = true) ∧ Hid (Gat w wr (o + 1) o f sp [(w.heap.size, 24, #[.int .i64 0, .int .i64 0, .slice none 0 0]), (gl, 9, curL), (gw, 9, curW2)] [] v2 (L.length + k) (L ++ (ws.take k).map wdV))) (fun v15 _ _ => ws.length - (intOf v15).toNat)
          case atStart => exact ⟨0, v, Nat.zero_le _, rfl, hide (fun j h => by omega), hide (by simpa using Y2.out)⟩
          case round =>
            obtain ⟨k, v2, hk, rfl, HW, Y3⟩ := hrel
            clear Y2
            by_cases hkl : k < ws.length
            · have c5 := CW.out wr (Y3.out.own.2 (gw, 9, curW2) (by simp)) k hkl
              have eg : ws[k] = ws.getD k [] := by rw [List.getD_eq_getElem?_getD, List.getElem?_eq_getElem hkl]; rfl
              rw [eg] at c5
              clear eg
              have xl := WL.out k hkl
              have IN := hide (fun W => rint_l (ws.getD k []) W (by omega))
              have TK := hide (take_wd hkl)
              have RWk := hide (fun h => RW.out k ⟨hkl, h⟩)
              have HW2 : Hid (wdB (ws.getD k []) = true → ∀ j, j < k + 1 → wdB (ws.getD j []) = true) := hide (fun h j hj => by
                by_cases e : j = k
                · rw [e]; exact h
                · exact HW.out j (by omega))
              have key3 : (decide (rvI (ws.getD k []) < 0) = true ∧ (ws.getD k [] == [45]) = false ∧ wdB (ws.getD k []) = false) ∨ (decide (rvI (ws.getD k []) < 0) = false ∧ wdB (ws.getD k []) = true ∧ wdV (ws.getD k []) = rvI (ws.getD k [])) ∨ (decide (rvI (ws.getD k []) < 0) = true ∧ (ws.getD k [] == [45]) = true ∧ wdB (ws.getD k []) = true ∧ wdV (ws.getD k []) = rvI (ws.getD k [])) := by
                have h1 := wd_rv (ws.getD k [])
                have h2 := (rvI_nn (ws.getD k [])).1
                generalize ws.getD k [] = x at *
                by_cases e : x = [45]
                · have h3 := h1.2 e
                  by_cases h4 : rvI x < 0
                  · exact .inr (.inr ⟨decide_eq_true h4, beq_iff_eq.2 e, h3⟩)
                  · exact .inr (.inl ⟨decide_eq_false h4, h3⟩)
                · have h3 := h1.1 e
                  by_cases h4 : rvI x < 0
                  · refine .inl ⟨decide_eq_true h4, beq_eq_false_iff_ne.2 e, ?_⟩
                    rw [h3.1]
                    cases hr : rvB x with
                    | true => have := h2.2 hr; omega
                    | false => rfl
                  · have hr := h2.1 (by omega)
                    exact .inr (.inl ⟨decide_eq_false h4, h3.1.trans hr, h3.2 hr⟩)
              generalize ws.getD k [] = x at *
              generalize rvI x = z at *
              rcases key3 with ⟨q7, q8, hB⟩ | ⟨q7, hB, hV⟩ | ⟨q7, q8, hB, hV⟩
              · have E := hide (RWk.out hB)
                have q9 : (x != [45]) = true := by rw [bne, q8]; rfl
                clear hB RWk RW HW HW2 TK E2
                have X := Y3.out.own
                have hr := X.r2
                go_wp2_with fail
                with_reducible refine Calls.mono (IN.out _) ?_
                rintro e w5 ⟨rfl, rfl⟩
                go_wp2
                exact bodyPost_ret (v := .tuple #[.agg #[.int .i64 0, .int .i64 0, .slice none 0 0], .int .i64 ((i : Int) + 1), .int .i64 7]) (by simp [results, Tryz.results11, hr, go_sem]) rfl (RpPost.err (by have HX := X.1; have hz := HX.size; go_grown) E.out)
              · have EB := hide hB
                have EV := hide hV
                clear hB hV RWk RW HW E2
                obtain ⟨A6, c6, rfl, -⟩ := row_anyG Y3.out.row
                have hr := Y3.out.own.r2
                have Y4 := hide (Y3.out.alloc (.cells #[.int .i64 z] 3))
                go_wp2_with fail
                with_reducible refine Calls.mono (IN.out _) ?_
                rintro e w5 ⟨rfl, rfl⟩
                go_wp2_with (at_builtin; refine wpList_append_own _ rfl _ _ 22 rfl (o + 1) 3 i0 (.int .i64 0) 1 8 Tryz.underlying22 hi0 hz0 hz1 hz2 rfl (by decide) _ (L.length + k) ((L ++ (ws.take k).map wdV).map (Value.int .i64)) rfl Y4.out.row ⟨wr.heap.size, 0, none⟩ 1 1 [.int .i64 z] rfl rfl (World.news_of_block (cs := #[.int .i64 z]) (t := 3) (fr := (0, 0)) (heap_alloc_new wr _)) (by simp [Value.oneCell']) (by unfold maxLen; omega) (by omega) Y4.out.b2.1 ?_; intro v6 w6 hown4 hgrow _; obtain ⟨A7, c7, rfl, -⟩ := row_anyG hown4; have hr4 := (Y4.out.grown hgrow).r2)
                have Y5 := hide (Y4.out.app (L4 := L ++ (ws.take (k + 1)).map wdV) (by rw [TK.out, EV.out, ← List.append_assoc, List.map_append]; exact hown4) hgrow)
                clear Y3 Y4 hown4 hgrow hr4 hr
                go_roundw
                case rel => exact ⟨k + 1, _, by omega, by go_num, hide (HW2.out EB.out), Y5⟩
                case measure => simp [intOf]; omega
              · have EB := hide hB
                have EV := hide hV
                have q9 : (x != [45]) = false := by rw [bne, q8]; rfl
                clear hB hV RWk RW HW E2
                obtain ⟨A6, c6, rfl, -⟩ := row_anyG Y3.out.row
                have hr := Y3.out.own.r2
                have Y4 := hide (Y3.out.alloc (.cells #[.int .i64 z] 3))
                go_wp2_with fail
                with_reducible refine Calls.mono (IN.out _) ?_
                rintro e w5 ⟨rfl, rfl⟩
                go_wp2_with (at_builtin; refine wpList_append_own _ rfl _ _ 22 rfl (o + 1) 3 i0 (.int .i64 0) 1 8 Tryz.underlying22 hi0 hz0 hz1 hz2 rfl (by decide) _ (L.length + k) ((L ++ (ws.take k).map wdV).map (Value.int .i64)) rfl Y4.out.row ⟨wr.heap.size, 0, none⟩ 1 1 [.int .i64 z] rfl rfl (World.news_of_block (cs := #[.int .i64 z]) (t := 3) (fr := (0, 0)) (heap_alloc_new wr _)) (by simp [Value.oneCell']) (by unfold maxLen; omega) (by omega) Y4.out.b2.1 ?_; intro v6 w6 hown4 hgrow _; obtain ⟨A7, c7, rfl, -⟩ := row_anyG hown4; have hr4 := (Y4.out.grown hgrow).r2)
                have Y5 := hide (Y4.out.app (L4 := L ++ (ws.take (k + 1)).map wdV) (by rw [TK.out, EV.out, ← List.append_assoc, List.map_append]; exact hown4) hgrow)
                clear Y3 Y4 hown4 hgrow hr4 hr
                go_roundw
                case rel => exact ⟨k + 1, _, by omega, by go_num, hide (HW2.out EB.out), Y5⟩
                case measure => simp [intOf]; omega
            · have hk2 : k = ws.length := by omega
              subst hk2
              have E3 := hide (E2.out (fun j hj => HW.out j hj))
              have HD2 : Hid (∀ x ∈ L ++ ws.map wdV, depR x) := hide (fun x hx => by
                rcases List.mem_append.1 hx with hx | hx
                · exact HD.out x hx
                · obtain ⟨y, hy, rfl⟩ := List.mem_map.1 hx
                  obtain ⟨j, hj, rfl⟩ := List.mem_iff_getElem.1 hy
                  have := HW.out j hj
                  rw [List.getD_eq_getElem?_getD, List.getElem?_eq_getElem hj] at this
                  exact ⟨wdV_bd _, wdV_lt this⟩)
              have Y6 : Hid (Gat w wr (o + 1) o f sp [(w.heap.size, 24, #[.int .i64 0, .int .i64 0, .slice none 0 0]), (gl, 9, curL)] [] v2 (L ++ ws.map wdV).length (L ++ ws.map wdV)) := hide (by
                have := Y3.out
                rw [List.take_length] at this
                rw [List.length_append, List.length_map]
                exact Gat.less (R2 := [(gw, 9, curW2)]) this)
              clear RW HW E2 HD Y3
              go_wp2
              go_roundw
              case rel => exact ⟨i + 1, v2, L ++ ws.map wdV, by omega, by omega, by rw [List.length_append, List.length_map]; omega, by go_num, E3, HD2, Y6⟩
              case measure => simp [intOf]; omega
      · obtain rfl : i = n := by omega
        have EF := HP.out.trans (rp_fin (s := s) (a := ⟨f, sp, L⟩) hi1 (by rw [NB.out]; exact Nat.le_refl _))
        obtain ⟨A5, c5, rfl, hi⟩ := IntSl.of_row Y.out.row (by omega) (fun j hj => by have := HD.out _ (List.getElem_mem hj); unfold depR at this; omega)
        obtain ⟨A', c', e', hc⟩ := row_anyG Y.out.row
        injection e' with e1 _ e3
        subst e1 e3
        have hsl : SerSl wr ⟨f, sp, L⟩ ⟨A5, c5⟩ := ⟨hi, hc, ⟨by show _ ≤ f; omega, by show f ≤ _; omega⟩, ⟨by show _ ≤ sp; omega, by show sp ≤ _; omega⟩⟩
        have V := hide (rfvalid17_any ⟨f, sp, L⟩ ⟨A5, c5⟩ wr hsl)
        have hr := Y.out.own.r2
        clear hc hi hsl HP
        cases hv : vS ⟨f, sp, L⟩ with
        | true =>
          rw [hv, if_pos rfl] at EF
          rw [hv] at V
          replace EF := hide EF
          clear hv
          go_wp2_with fail
          with_reducible refine Calls.mono V.out ?_
          rintro e w5 ⟨rfl, hb⟩
          have PO := hide (fun x y z => (Y.out.to hb).post (rb := w.heap.size) (cs := #[.int .i64 0, .int .i64 0, .slice none 0 0]) (List.mem_cons_self ..) (Nat.le_refl _) x y z (fun u hu => by have := HD.out u hu; unfold depR at this; omega) (by omega) (by omega) (by omega))
          have X := (Y.out.to hb).own
          clear hr hb V Y
          have hr := X.r2
          go_wp2
          refine bodyPost_ret (v := .tuple #[.agg #[.int .i64 f, .int .i64 sp, .slice A5 L.length c5], .int .i64 0, .int .i64 0]) ?_ rfl ?_
          · simp [results, Tryz.results11, hr, go_sem]
          · exact SerPost.three (PO.out _ _ _) EF.out
        | false =>
          rw [hv, if_neg (by decide)] at EF
          rw [hv] at V
          replace EF := hide EF
          clear hv
          go_wp2_with fail
          with_reducible refine Calls.mono V.out ?_
          rintro e w5 ⟨rfl, hb⟩
          have X := (Y.out.to hb).own
          clear hr hb V Y
          have hr := X.r2
          go_wp2
          exact bodyPost_ret (v := .tuple #[.agg #[.int .i64 0, .int .i64 0, .slice none 0 0], .int .i64 0, .int .i64 1]) (by simp [results, Tryz.results11, hr, go_sem]) rfl (RpPost.err (by have HX := X.1; have hz := HX.size; go_grown) EF.out)
end Go.Proofs.YtkjndkeboeieoaaGreatDoor
