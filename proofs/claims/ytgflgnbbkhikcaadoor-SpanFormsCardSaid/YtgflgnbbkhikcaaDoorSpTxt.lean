/- The program's texts of spans: text, Text, Parse: what each returns; nothing that was there is turned. -/
import Derived.Test.YtgflgnbbkhikcaaDoorSpTxP
import Derived.Test.YtgflgnbbkhikcaaDoorSpFn
import Derived.Test.YtgflgnbbkhikcaaDoorOwnQ
import Derived.Test.YtgflgnbbkhikcaaDoorOwn3
namespace Go.Proofs.YtgflgnbbkhikcaaDoor
open Go Go.RowKit

theorem vB_i64 {a : Sp} (h : vB a = true) : (-9223372036854775808 ≤ a.lo ∧ a.lo ≤ 9223372036854775807) ∧ -9223372036854775808 ≤ a.hi ∧ a.hi ≤ 9223372036854775807 := by
  obtain ⟨h1, h2, h3⟩ := vB_iff.1 h
  omega
set_option maxRecDepth 100000 in
set_option maxHeartbeats 1000000 in
theorem text_any (a : Sp) (w : World) (ha : (-9223372036854775808 ≤ a.lo ∧ a.lo ≤ 9223372036854775807) ∧ -9223372036854775808 ≤ a.hi ∧ a.hi ≤ 9223372036854775807) (ht : TxtW w) : Calls Tryd.prog 56 #[a.val] w (RetV (strV (txS a)) w) := by
  have X := (Own.start w).alloc #[.int .i64 a.lo, .int .i64 a.hi] 23
  have HT := hide ht
  have I1 := hide (fun W hW => itoaL a.lo W ha.1.1 ha.1.2 hW)
  have I2 := hide (fun W hW => itoaL a.hi W ha.2.1 ha.2.2 hW)
  have hr := X.r1
  clear ht
  by_cases h : a.lo = a.hi
  · have E : Hid (txS a = Lib.itoa a.lo) := hide (by unfold txS; rw [if_pos h])
    have e0 : (a.lo == a.hi) = true := by simpa using h
    clear h
    go_enter Tryd.func56, Tryd.ntmps56
    go_wp2_with fail
    refine (I1.out _ (HT.out.below X.1)).mono ?_
    rintro e w1 ⟨rfl, hb⟩
    replace X := X.to hb
    clear hb hr
    go_wp2
    go_ret
    exact ⟨by rw [E.out]; rfl, X.1⟩
  · have E : Hid (txS a = Lib.itoa a.lo ++ 46 :: 46 :: Lib.itoa a.hi) := hide (by unfold txS; rw [if_neg h])
    have e0 : (a.lo == a.hi) = false := by simpa using h
    clear h
    have K1 : ∀ x : OwnW w [(w.heap.size, 23, #[.int .i64 a.lo, .int .i64 a.hi])], Calls Tryd.prog 73 #[.int .i64 a.lo] x.W (RetV (strV (Lib.itoa a.lo)) x.W) := fun x => I1.out _ (HT.out.below x.own.1)
    have K2 : ∀ x : OwnW w [(w.heap.size, 23, #[.int .i64 a.lo, .int .i64 a.hi])], Calls Tryd.prog 73 #[.int .i64 a.hi] x.W (RetV (strV (Lib.itoa a.hi)) x.W) := fun x => I2.out _ (HT.out.below x.own.1)
    clear I1 I2
    have l1 := Lib.itoa_length_le a.lo ha.1.1 ha.1.2
    have l2 := Lib.itoa_length_le a.hi ha.2.1 ha.2.2
    generalize Lib.itoa a.lo = sl at *
    generalize Lib.itoa a.hi = sh at *
    have c1 : (⟨sl.toArray⟩ : ByteArray) ++ ⟨#[46, 46]⟩ = ⟨(sl ++ [46, 46]).toArray⟩ := ba_append sl [46, 46]
    have c2 := ba_append (sl ++ [46, 46]) sh
    have l3 : ¬ 9223372036854775807 < sl.length + 2 := by omega
    have l4 : ¬ 9223372036854775807 < sl.length + 2 + sh.length := by omega
    clear ha
    have NE : Nonempty (OwnW w [(w.heap.size, 23, #[.int .i64 a.lo, .int .i64 a.hi])]) := ⟨⟨_, X⟩⟩
    have C1 := fun x : OwnW w [(w.heap.size, 23, #[.int .i64 a.lo, .int .i64 a.hi])] => x.own.r1
    go_enter Tryd.func56, Tryd.ntmps56
    go_wp2_with fail
    refine wp_region_own (w := w) (L := [(w.heap.size, 23, #[.int .i64 a.lo, .int .i64 a.hi])]) (by kernel_rfl) (by kernel_rfl) X ?_
    repeat (go_big_quiet_step ((rename_i x; first | exact own_call (K1 _) | exact own_call (K2 _))))
    refine wpQuiet_nil ?_
    rintro _ ⟨⟨W, HX⟩, rfl⟩
    go_wp2
    go_ret
    exact ⟨by rw [E.out]; rfl, HX.1⟩
set_option maxRecDepth 100000 in
set_option maxHeartbeats 1000000 in
theorem Text_any (a : Sp) (w : World) (ht : TxtW w) : Calls Tryd.prog 36 #[a.val] w (RetV (.tuple #[strV (if vB a then txS a else []), .int .i64 (if vB a then 0 else 1)]) w) := by
  have X := (Own.start w).alloc #[.int .i64 a.lo, .int .i64 a.hi] 23
  have HT := hide ht
  have hr := X.r1
  have V := hide (fun W => valid_any a W)
  clear ht
  rcases Bool.eq_false_or_eq_true (vB a) with h | h
  · have T := hide (fun W hW => text_any a W (vB_i64 h) hW)
    rw [h] at V
    rw [h]
    clear h
    go_enter Tryd.func36, Tryd.ntmps36
    go_wp2_with fail
    refine (V.out _).mono ?_
    rintro e w1 ⟨rfl, hb⟩
    replace X := X.to hb
    clear hb hr
    have hr := X.r1
    go_wp2_with fail
    refine (T.out _ (HT.out.below X.1)).mono ?_
    rintro e w2 ⟨rfl, hb⟩
    replace X := X.to hb
    clear hb hr
    have hr := X.r1
    go_wp2
    go_ret2
    exact ⟨rfl, X.1⟩
  · rw [h] at V
    rw [h]
    clear h
    go_enter Tryd.func36, Tryd.ntmps36
    go_wp2_with fail
    refine (V.out _).mono ?_
    rintro e w1 ⟨rfl, hb⟩
    replace X := X.to hb
    clear hb hr
    have hr := X.r1
    go_wp2
    go_ret2
    exact ⟨rfl, X.1⟩
def psR (l : List UInt8) : Sp := if psB l then psS l else Sp.zero
def psE (l : List UInt8) : Int := if psB l then 0 else 7
theorem ps_no {l : List UInt8} (h : psB l = false) : psR l = ⟨0, 0⟩ ∧ psE l = 7 := by unfold psR psE; rw [h]; exact ⟨rfl, rfl⟩
theorem ps_ok {l : List UInt8} (h : psB l = true) : psR l = psS l ∧ psE l = 0 := by unfold psR psE; rw [h]; exact ⟨rfl, rfl⟩
set_option maxRecDepth 100000 in
set_option maxHeartbeats 2000000 in
theorem Parse_any (l : List UInt8) (w : World) (hl : l.length ≤ 4294967280) (ht : TxtW w) : Calls Tryd.prog 34 #[strV l] w (RetSE (psR l) (psE l) w) := by
  have X := (Own.start w).alloc #[.int .i64 0, .int .i64 0] 23
  have HT := hide ht
  have CU := hide (fun W hW => cutLL l [46, 46] W (by omega) hW)
  have cl := cut_len l [46, 46]
  have A1 := hide (fun W hW => atoiL (cutL l) W (by unfold cutL; omega) hW)
  have A2 := hide (fun W hW => atoiL (cutH l) W (by unfold cutH; split <;> omega) hW)
  have V := hide (fun W => valid_any (psS l) W)
  have T := hide (fun W hW => text_any (psS l) W ⟨atV_bd _, atV_bd _⟩ hW)
  have PB : Hid (psB l = (atB (cutL l) && atB (cutH l) && vB (psS l) && decide (txS (psS l) = l))) := hide rfl
  have N := hide (fun h => ps_no (l := l) h)
  have Y := hide (fun h => ps_ok (l := l) h)
  have EH : Hid (((Lib.cut l [46, 46]).2.2 = true → cutH l = (Lib.cut l [46, 46]).2.1) ∧ ((Lib.cut l [46, 46]).2.2 = false → cutH l = cutL l)) := hide ⟨fun h => by unfold cutH; rw [if_pos h], fun h => by unfold cutH; rw [if_neg (by rw [h]; simp)]; rfl⟩
  have eL : (Lib.cut l [46, 46]).1 = cutL l := rfl
  have eS : psS l = ⟨atV (cutL l), atV (cutH l)⟩ := rfl
  rw [eL] at CU
  have bL := atV_bd (cutL l)
  have bH := atV_bd (cutH l)
  clear ht hl cl eL
  rw [eS] at V T PB Y
  clear eS
  generalize atV (cutL l) = x at *
  generalize atV (cutH l) = y at *
  generalize txS ⟨x, y⟩ = tx at *
  generalize vB ⟨x, y⟩ = vv at *
  generalize psB l = pb at *
  generalize psR l = pr at *
  generalize psE l = pe at *
  generalize atB (cutL l) = b1 at *
  generalize atB (cutH l) = b2 at *
  generalize cutL l = sL at *
  generalize cutH l = sH at *
  generalize (Lib.cut l [46, 46]).2.1 = s2 at *
  generalize (Lib.cut l [46, 46]).2.2 = tw at *
  have hr := X.r1
  go_enter Tryd.func34, Tryd.ntmps34
  go_wp2_with fail
  refine (CU.out _ (HT.out.below X.1)).mono ?_
  rintro e w1 ⟨rfl, hb⟩
  replace X := X.to hb
  clear hb hr
  have hr := X.r1
  cases tw
  · obtain rfl := EH.out.2 rfl
    clear EH
    go_wp2_with fail
    refine (A1.out _ (HT.out.below X.1)).mono ?_
    rintro e w2 ⟨⟨ev1, rfl, h1, h2⟩, hb⟩
    replace X := X.to hb
    clear hb hr
    have hr := X.r1
    go_wp2_with fail
    refine (A2.out _ (HT.out.below X.1)).mono ?_
    rintro e w3 ⟨⟨ev2, rfl, k1, k2⟩, hb⟩
    replace X := (X.to hb).alloc #[.int .i64 x, .int .i64 y] 23
    clear hb hr
    have hr := X.r2
    cases b1
    · obtain ⟨te, pe1, rfl⟩ := h2 rfl
      have E := hide (N.out (by rw [PB.out]; simp))
      clear h1 h2 k1 k2
      go_wp2
      exact bodyPost_ret (v := .tuple #[.agg #[.int .i64 0, .int .i64 0], .int .i64 7]) (by simp [results, Tryd.results34, hr, go_sem]) rfl (RetSE.mk (s' := ⟨0, 0⟩) (by have HX := X.1; have hz := HX.size; go_grown) E.out.1 E.out.2)
    obtain rfl := h1 rfl
    cases b2
    · obtain ⟨te, pe1, rfl⟩ := k2 rfl
      have E := hide (N.out (by rw [PB.out]; simp))
      clear h1 h2 k1 k2
      go_wp2
      exact bodyPost_ret (v := .tuple #[.agg #[.int .i64 0, .int .i64 0], .int .i64 7]) (by simp [results, Tryd.results34, hr, go_sem]) rfl (RetSE.mk (s' := ⟨0, 0⟩) (by have HX := X.1; have hz := HX.size; go_grown) E.out.1 E.out.2)
    obtain rfl := k1 rfl
    clear h1 h2 k1 k2
    go_wp2_with fail
    refine (V.out _).mono ?_
    rintro e w4 ⟨rfl, hb⟩
    replace X := X.to hb
    clear hb hr
    have hr := X.r2
    cases vv
    · have E := hide (N.out (by rw [PB.out]; simp))
      go_wp2
      exact bodyPost_ret (v := .tuple #[.agg #[.int .i64 0, .int .i64 0], .int .i64 7]) (by simp [results, Tryd.results34, hr, go_sem]) rfl (RetSE.mk (s' := ⟨0, 0⟩) (by have HX := X.1; have hz := HX.size; go_grown) E.out.1 E.out.2)
    go_wp2_with fail
    refine (T.out _ (HT.out.below X.1)).mono ?_
    rintro e w5 ⟨rfl, hb⟩
    replace X := X.to hb
    clear hb hr
    have hr := X.r2
    by_cases q : tx = l
    · have E := hide (Y.out (by rw [PB.out]; simp [q]))
      have q1 : (tx == l) = true := by simp [q]
      clear q
      go_wp2
      exact bodyPost_ret (v := .tuple #[.agg #[.int .i64 x, .int .i64 y], .int .i64 0]) (by simp [results, Tryd.results34, hr, go_sem]) rfl (RetSE.mk (s' := ⟨x, y⟩) (by have HX := X.1; have hz := HX.size; go_grown) E.out.1 E.out.2)
    · have E := hide (N.out (by rw [PB.out]; simp [q]))
      have q1 : (tx == l) = false := by simp [q]
      clear q
      go_wp2
      exact bodyPost_ret (v := .tuple #[.agg #[.int .i64 0, .int .i64 0], .int .i64 7]) (by simp [results, Tryd.results34, hr, go_sem]) rfl (RetSE.mk (s' := ⟨0, 0⟩) (by have HX := X.1; have hz := HX.size; go_grown) E.out.1 E.out.2)
  · obtain rfl := EH.out.1 rfl
    clear EH
    go_wp2_with fail
    refine (A1.out _ (HT.out.below X.1)).mono ?_
    rintro e w2 ⟨⟨ev1, rfl, h1, h2⟩, hb⟩
    replace X := X.to hb
    clear hb hr
    have hr := X.r1
    go_wp2_with fail
    refine (A2.out _ (HT.out.below X.1)).mono ?_
    rintro e w3 ⟨⟨ev2, rfl, k1, k2⟩, hb⟩
    replace X := (X.to hb).alloc #[.int .i64 x, .int .i64 y] 23
    clear hb hr
    have hr := X.r2
    cases b1
    · obtain ⟨te, pe1, rfl⟩ := h2 rfl
      have E := hide (N.out (by rw [PB.out]; simp))
      clear h1 h2 k1 k2
      go_wp2
      exact bodyPost_ret (v := .tuple #[.agg #[.int .i64 0, .int .i64 0], .int .i64 7]) (by simp [results, Tryd.results34, hr, go_sem]) rfl (RetSE.mk (s' := ⟨0, 0⟩) (by have HX := X.1; have hz := HX.size; go_grown) E.out.1 E.out.2)
    obtain rfl := h1 rfl
    cases b2
    · obtain ⟨te, pe1, rfl⟩ := k2 rfl
      have E := hide (N.out (by rw [PB.out]; simp))
      clear h1 h2 k1 k2
      go_wp2
      exact bodyPost_ret (v := .tuple #[.agg #[.int .i64 0, .int .i64 0], .int .i64 7]) (by simp [results, Tryd.results34, hr, go_sem]) rfl (RetSE.mk (s' := ⟨0, 0⟩) (by have HX := X.1; have hz := HX.size; go_grown) E.out.1 E.out.2)
    obtain rfl := k1 rfl
    clear h1 h2 k1 k2
    go_wp2_with fail
    refine (V.out _).mono ?_
    rintro e w4 ⟨rfl, hb⟩
    replace X := X.to hb
    clear hb hr
    have hr := X.r2
    cases vv
    · have E := hide (N.out (by rw [PB.out]; simp))
      go_wp2
      exact bodyPost_ret (v := .tuple #[.agg #[.int .i64 0, .int .i64 0], .int .i64 7]) (by simp [results, Tryd.results34, hr, go_sem]) rfl (RetSE.mk (s' := ⟨0, 0⟩) (by have HX := X.1; have hz := HX.size; go_grown) E.out.1 E.out.2)
    go_wp2_with fail
    refine (T.out _ (HT.out.below X.1)).mono ?_
    rintro e w5 ⟨rfl, hb⟩
    replace X := X.to hb
    clear hb hr
    have hr := X.r2
    by_cases q : tx = l
    · have E := hide (Y.out (by rw [PB.out]; simp [q]))
      have q1 : (tx == l) = true := by simp [q]
      clear q
      go_wp2
      exact bodyPost_ret (v := .tuple #[.agg #[.int .i64 x, .int .i64 y], .int .i64 0]) (by simp [results, Tryd.results34, hr, go_sem]) rfl (RetSE.mk (s' := ⟨x, y⟩) (by have HX := X.1; have hz := HX.size; go_grown) E.out.1 E.out.2)
    · have E := hide (N.out (by rw [PB.out]; simp [q]))
      have q1 : (tx == l) = false := by simp [q]
      clear q
      go_wp2
      exact bodyPost_ret (v := .tuple #[.agg #[.int .i64 0, .int .i64 0], .int .i64 7]) (by simp [results, Tryd.results34, hr, go_sem]) rfl (RetSE.mk (s' := ⟨0, 0⟩) (by have HX := X.1; have hz := HX.size; go_grown) E.out.1 E.out.2)
end Go.Proofs.YtgflgnbbkhikcaaDoor
