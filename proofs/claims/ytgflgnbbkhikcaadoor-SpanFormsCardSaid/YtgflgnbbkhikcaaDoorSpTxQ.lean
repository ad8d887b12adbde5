/- The reference's Text and Parse of spans (sewershedref04): what each returns; nothing that was there is turned. -/
import Derived.Test.YtgflgnbbkhikcaaDoorSpTxI
namespace Go.Proofs.YtgflgnbbkhikcaaDoor
open Go Go.RowKit

set_option maxRecDepth 100000 in
set_option maxHeartbeats 1000000 in
theorem rtext_any (a : Sp) (w : World) (ha : (-9223372036854775808 ≤ a.lo ∧ a.lo ≤ 9223372036854775807) ∧ -9223372036854775808 ≤ a.hi ∧ a.hi ≤ 9223372036854775807) : Calls Tryd.prog 40 #[a.val] w (RetV (strV (txS a)) w) := by
  have X := (Own.start w).alloc #[.int .i64 a.lo, .int .i64 a.hi] 23
  have I1 := hide (fun W => rdec_any a.lo W ha.1.1 ha.1.2)
  have I2 := hide (fun W => rdec_any a.hi W ha.2.1 ha.2.2)
  have hr := X.r1
  by_cases h : a.lo = a.hi
  · have E : Hid (txS a = Lib.itoa a.lo) := hide (by unfold txS; rw [if_pos h])
    have e0 : (a.lo == a.hi) = true := by simpa using h
    clear h ha
    go_enter Tryd.func40, Tryd.ntmps40
    go_wp2_with fail
    refine (I1.out _).mono ?_
    rintro e w1 ⟨rfl, hb⟩
    replace X := X.to hb
    clear hb hr
    go_wp2
    go_ret
    exact ⟨by rw [E.out]; rfl, X.1⟩
  · have E : Hid (txS a = Lib.itoa a.lo ++ 46 :: 46 :: Lib.itoa a.hi) := hide (by unfold txS; rw [if_neg h])
    have e0 : (a.lo == a.hi) = false := by simpa using h
    clear h
    have l1 := Lib.itoa_length_le a.lo ha.1.1 ha.1.2
    have l2 := Lib.itoa_length_le a.hi ha.2.1 ha.2.2
    have K1 : ∀ x : OwnW w [(w.heap.size, 23, #[.int .i64 a.lo, .int .i64 a.hi])], Calls Tryd.prog 59 #[.int .i64 a.lo] x.W (fun e w' => e = .returned (strV (Lib.itoa a.lo)) ∧ Below x.W.heap.size x.W w') := fun x => I1.out _
    have K2 : ∀ x : OwnW w [(w.heap.size, 23, #[.int .i64 a.lo, .int .i64 a.hi])], Calls Tryd.prog 59 #[.int .i64 a.hi] x.W (fun e w' => e = .returned (strV (Lib.itoa a.hi)) ∧ Below x.W.heap.size x.W w') := fun x => I2.out _
    clear I1 I2
    generalize Lib.itoa a.lo = sl at *
    generalize Lib.itoa a.hi = sh at *
    have c1 : (⟨sl.toArray⟩ : ByteArray) ++ ⟨#[46, 46]⟩ = ⟨(sl ++ [46, 46]).toArray⟩ := ba_append sl [46, 46]
    have c2 := ba_append (sl ++ [46, 46]) sh
    have l3 : ¬ 9223372036854775807 < sl.length + 2 := by omega
    have l4 : ¬ 9223372036854775807 < sl.length + 2 + sh.length := by omega
    clear ha
    have NE : Nonempty (OwnW w [(w.heap.size, 23, #[.int .i64 a.lo, .int .i64 a.hi])]) := ⟨⟨_, X⟩⟩
    have C1 := fun x : OwnW w [(w.heap.size, 23, #[.int .i64 a.lo, .int .i64 a.hi])] => x.own.r1
    go_enter Tryd.func40, Tryd.ntmps40
    go_wp2_with fail
    refine wp_region_own (w := w) (L := [(w.heap.size, 23, #[.int .i64 a.lo, .int .i64 a.hi])]) (by kernel_rfl) (by kernel_rfl) X ?_
    repeat (go_big_quiet_step ((rename_i x; first | (with_reducible exact own_call (K1 _)) | (with_reducible exact own_call (K2 _)))))
    refine wpQuiet_nil ?_
    rintro _ ⟨⟨W, HX⟩, rfl⟩
    go_wp2
    go_ret
    exact ⟨by rw [E.out]; rfl, HX.1⟩
theorem rint_any (s : ByteArray) (w : World) (hs : s.size ≤ 4294967280) : Calls Tryd.prog 57 #[.string s] w (IntPost s.data.toList w) := by
  by_cases h0 : 0 < s.size
  · by_cases hm : (s[0].toNat : Int) = 45
    · exact rint_neg s w hs h0 hm
    · exact rint_pos s w hs (fun _ => hm)
  · exact rint_pos s w hs (fun h => absurd h h0)
theorem rint_list (l : List UInt8) (t : ByteArray) (w : World) (hl : l.length ≤ 4294967280) (e : t.data.toList = l) : Calls Tryd.prog 57 #[.string t] w (IntPost l w) := by
  subst e
  exact rint_any t w (by simpa using hl)
theorem rdV_bd (l : List UInt8) : rdB l = true → -9223372036854775808 ≤ rdV l ∧ rdV l ≤ 9223372036854775807 := fun h => by have := rd_inv h; omega
def rsR (l : List UInt8) : Sp := if rsB l then rsS l else Sp.zero
def rsE (l : List UInt8) : Int := if rsB l then 0 else 7
theorem rs_no {l : List UInt8} (h : rsB l = false) : rsR l = ⟨0, 0⟩ ∧ rsE l = 7 := by unfold rsR rsE; rw [h]; exact ⟨rfl, rfl⟩
theorem rs_ok {l : List UInt8} (h : rsB l = true) : rsR l = rsS l ∧ rsE l = 0 := by unfold rsR rsE; rw [h]; exact ⟨rfl, rfl⟩
theorem take_ext (s : ByteArray) (i : Nat) : (s.extract 0 i).data.toList = s.data.toList.take i := by
  simp [ByteArray.data_extract]
theorem drop_ext (s : ByteArray) (i : Nat) : (s.extract i s.size).data.toList = s.data.toList.drop i := by
  have : s.size = s.data.toList.length := by simp
  simp [ByteArray.data_extract]
  rw [List.take_of_length_le]
  simp
theorem rs_defs (s : ByteArray) : (rsB s.data.toList = if dots s.data.toList < s.size then rdB (s.data.toList.take (dots s.data.toList)) && rdB (s.data.toList.drop (dots s.data.toList + 2)) && decide (rdV (s.data.toList.take (dots s.data.toList)) < rdV (s.data.toList.drop (dots s.data.toList + 2))) && vB ⟨rdV (s.data.toList.take (dots s.data.toList)), rdV (s.data.toList.drop (dots s.data.toList + 2))⟩
    else rdB s.data.toList && vB ⟨rdV s.data.toList, rdV s.data.toList⟩) ∧
    (rsS s.data.toList = if dots s.data.toList < s.size then ⟨rdV (s.data.toList.take (dots s.data.toList)), rdV (s.data.toList.drop (dots s.data.toList + 2))⟩ else ⟨rdV s.data.toList, rdV s.data.toList⟩) := by
  have e : s.size = s.data.toList.length := by simp
  rw [e]
  exact ⟨rfl, rfl⟩
theorem dots_step {c d : UInt8} {r : List UInt8} (h : ¬ (c = 46 ∧ d = 46)) : dots (c :: d :: r) = dots (d :: r) + 1 := by
  rw [dots, if_neg]
  rintro ⟨h1, h2⟩
  exact h ⟨h1, by simpa using h2⟩
theorem dots_one (c : UInt8) : dots [c] = 1 := by simp [dots]
set_option maxRecDepth 100000 in
set_option maxHeartbeats 4000000 in
theorem rparse_any (s : ByteArray) (w : World) (hs : s.size ≤ 4294967280) : Calls Tryd.prog 35 #[.string s] w (RetSE (rsR s.data.toList) (rsE s.data.toList) w) := by
  have X := (Own.start w).alloc #[.int .i64 0, .int .i64 0] 23
  have hr := X.r1
  have N := hide (fun h => rs_no (l := s.data.toList) h)
  have Y := hide (fun h => rs_ok (l := s.data.toList) h)
  have RB := hide (rs_defs s).1
  have RS := hide (rs_defs s).2
  generalize rsR s.data.toList = pr at *
  generalize rsE s.data.toList = pe at *
  generalize rsB s.data.toList = pb at *
  generalize rsS s.data.toList = ps at *
  go_enter Tryd.func35, Tryd.ntmps35
  go_wp2
  go_loop [4] (fun v4 => ∃ i : Nat, i ≤ s.size ∧ v4 = .int .i64 i ∧ Hid (dots s.data.toList = i + dots (s.data.toList.drop i))) (fun v4 => s.size - (intOf v4).toNat)
  case atStart => exact ⟨0, Nat.zero_le _, rfl, hide (by simp)⟩
  case round =>
    obtain ⟨i, hi, rfl, HI⟩ := hrel
    by_cases hlt : i + 1 < s.size
    · have DB := hide (drop_byteD s i (by omega))
      have DB2 := hide (drop_byteD s (i + 1) (by omega))
      by_cases f : (s[i].toNat : Int) = 46 ∧ (s[i + 1].toNat : Int) = 46
      · have q1 : ((s[i].toNat : Int) == 46) = true := by simp [f.1]
        have q2 : ((s[i + 1].toNat : Int) == 46) = true := by simp [f.2]
        have e1 : s[i] = 46 := UInt8.toNat_inj.1 (by have : (46 : UInt8).toNat = 46 := rfl; omega)
        have e2 : s[i + 1] = 46 := UInt8.toNat_inj.1 (by have : (46 : UInt8).toNat = 46 := rfl; omega)
        have DT : dots s.data.toList = i := by
          rw [HI.out, DB.out, DB2.out, e1, e2]
          simp [dots]
        have RB' := RB.out
        have RS' := RS.out
        rw [DT, if_pos (by omega)] at RB' RS'
        have P1 := hide (fun W => rint_list (s.data.toList.take i) (s.extract 0 i) W (by simp; omega) (take_ext s i))
        have P2 := hide (fun W => rint_list (s.data.toList.drop (i + 2)) (s.extract (i + 2) s.size) W (by simp; omega) (drop_ext s (i + 2)))
        have RB2 := hide RB'
        have RS2 := hide RS'
        have DT2 := hide DT
        have q3 : decide ((i : Int) + 1 < (s.size : Int)) = true := decide_eq_true (by omega)
        have bL := rdV_bd (s.data.toList.take i)
        have bH := rdV_bd (s.data.toList.drop (i + 2))
        clear RB RS RB' RS' DT HI DB DB2 e1 e2 f
        have V := hide (fun W => rvalid_any ⟨rdV (s.data.toList.take i), rdV (s.data.toList.drop (i + 2))⟩ W)
        generalize vB ⟨rdV (s.data.toList.take i), rdV (s.data.toList.drop (i + 2))⟩ = vv at *
        unfold IntPost at P1 P2
        generalize rdV (s.data.toList.take i) = x at *
        generalize rdV (s.data.toList.drop (i + 2)) = y at *
        generalize rdB (s.data.toList.take i) = b1 at *
        generalize rdB (s.data.toList.drop (i + 2)) = b2 at *
        go_wp2_with fail
        refine (P1.out _).mono ?_
        rintro e w1 ⟨rfl, hb⟩
        replace X := X.to hb
        clear hb hr
        have hr := X.r1
        go_wp2_with fail
        refine (P2.out _).mono ?_
        rintro e w2 ⟨rfl, hb⟩
        replace X := (X.to hb).alloc #[.int .i64 x, .int .i64 y] 23
        clear hb hr
        have hr := X.r2
        cases b1
        · have E := hide (N.out (by rw [RB2.out]; simp))
          clear V bL bH
          go_wp2
          exact bodyPost_ret (v := .tuple #[.agg #[.int .i64 0, .int .i64 0], .int .i64 7]) (by simp [results, Tryd.results35, hr, go_sem]) rfl (RetSE.mk (s' := ⟨0, 0⟩) (by have HX := X.1; have hz := HX.size; go_grown) E.out.1 E.out.2)
        cases b2
        · have E := hide (N.out (by rw [RB2.out]; simp))
          clear V bL bH
          go_wp2
          exact bodyPost_ret (v := .tuple #[.agg #[.int .i64 0, .int .i64 0], .int .i64 7]) (by simp [results, Tryd.results35, hr, go_sem]) rfl (RetSE.mk (s' := ⟨0, 0⟩) (by have HX := X.1; have hz := HX.size; go_grown) E.out.1 E.out.2)
        replace bL := bL rfl
        replace bH := bH rfl
        by_cases xy : x < y
        rotate_left
        · have E := hide (N.out (by rw [RB2.out]; simp [xy]))
          have q4 : decide (y ≤ x) = true := decide_eq_true (by omega)
          clear V xy
          go_wp2
          exact bodyPost_ret (v := .tuple #[.agg #[.int .i64 0, .int .i64 0], .int .i64 7]) (by simp [results, Tryd.results35, hr, go_sem]) rfl (RetSE.mk (s' := ⟨0, 0⟩) (by have HX := X.1; have hz := HX.size; go_grown) E.out.1 E.out.2)
        have q4 : decide (y ≤ x) = false := decide_eq_false (by omega)
        go_wp2_with fail
        refine (V.out _).mono ?_
        rintro e w4 ⟨rfl, hb⟩
        replace X := X.to hb
        clear hb hr
        have hr := X.r2
        cases vv
        · have E := hide (N.out (by rw [RB2.out]; simp))
          clear V xy
          go_wp2
          exact bodyPost_ret (v := .tuple #[.agg #[.int .i64 0, .int .i64 0], .int .i64 7]) (by simp [results, Tryd.results35, hr, go_sem]) rfl (RetSE.mk (s' := ⟨0, 0⟩) (by have HX := X.1; have hz := HX.size; go_grown) E.out.1 E.out.2)
        · have E := hide (Y.out (by rw [RB2.out]; simp [xy]))
          clear V xy
          go_wp2
          exact bodyPost_ret (v := .tuple #[.agg #[.int .i64 x, .int .i64 y], .int .i64 0]) (by simp [results, Tryd.results35, hr, go_sem]) rfl (RetSE.mk (s' := ⟨x, y⟩) (by have HX := X.1; have hz := HX.size; go_grown) (E.out.1.trans RS2.out) E.out.2)
      · have NX : Hid (dots s.data.toList = (i + 1) + dots (s.data.toList.drop (i + 1))) := hide (by
          rw [HI.out, DB.out, DB2.out, dots_step (fun h => f ⟨by rw [h.1]; rfl, by rw [h.2]; rfl⟩)]; omega)
        have q3 : decide ((i : Int) + 1 < (s.size : Int)) = true := decide_eq_true (by omega)
        by_cases f1 : (s[i].toNat : Int) = 46
        · have q1 : ((s[i].toNat : Int) == 46) = true := by simp [f1]
          have f2 : ¬ (s[i + 1].toNat : Int) = 46 := fun h => f ⟨f1, h⟩
          have q2 : ((s[i + 1].toNat : Int) == 46) = false := by simpa using f2
          clear f f1 f2 HI DB DB2
          go_wp2
          go_round
          case rel => exact ⟨i + 1, by omega, by go_num, NX⟩
          case measure => simp [intOf]; omega
        · have q1 : ((s[i].toNat : Int) == 46) = false := by simpa using f1
          clear f f1 HI DB DB2
          go_wp2
          go_round
          case rel => exact ⟨i + 1, by omega, by go_num, NX⟩
          case measure => simp [intOf]; omega
    · have DT : dots s.data.toList = s.size := by
        rw [HI.out]
        by_cases z : i = s.size
        · rw [z, List.drop_of_length_le (by simp)]; rfl
        · rw [drop_byteD s i (by omega), show i + 1 = s.size by omega, List.drop_of_length_le (by simp), dots_one]; omega
      have RB' := RB.out
      have RS' := RS.out
      rw [DT, if_neg (by omega)] at RB' RS'
      have RB2 := hide RB'
      have RS2 := hide RS'
      have q3 : decide ((i : Int) + 1 < (s.size : Int)) = false := decide_eq_false (by omega)
      have bL := rdV_bd s.data.toList
      have P1 := hide (fun W => rint_any s W hs)
      have V := hide (fun W => rvalid_any ⟨rdV s.data.toList, rdV s.data.toList⟩ W)
      clear RB RS RB' RS' DT HI
      unfold IntPost at P1
      generalize vB ⟨rdV s.data.toList, rdV s.data.toList⟩ = vv at *
      generalize rdV s.data.toList = x at *
      generalize rdB s.data.toList = b1 at *
      go_wp2_with fail
      refine (P1.out _).mono ?_
      rintro e w1 ⟨rfl, hb⟩
      replace X := (X.to hb).alloc #[.int .i64 x, .int .i64 x] 23
      clear hb hr
      have hr := X.r2
      cases b1
      · have E := hide (N.out (by rw [RB2.out]; simp))
        clear V bL
        go_wp2
        exact bodyPost_ret (v := .tuple #[.agg #[.int .i64 0, .int .i64 0], .int .i64 7]) (by simp [results, Tryd.results35, hr, go_sem]) rfl (RetSE.mk (s' := ⟨0, 0⟩) (by have HX := X.1; have hz := HX.size; go_grown) E.out.1 E.out.2)
      replace bL := bL rfl
      go_wp2_with fail
      refine (V.out _).mono ?_
      rintro e w4 ⟨rfl, hb⟩
      replace X := X.to hb
      clear hb hr
      have hr := X.r2
      cases vv
      · have E := hide (N.out (by rw [RB2.out]; simp))
        clear V
        go_wp2
        exact bodyPost_ret (v := .tuple #[.agg #[.int .i64 0, .int .i64 0], .int .i64 7]) (by simp [results, Tryd.results35, hr, go_sem]) rfl (RetSE.mk (s' := ⟨0, 0⟩) (by have HX := X.1; have hz := HX.size; go_grown) E.out.1 E.out.2)
      · have E := hide (Y.out (by rw [RB2.out]; simp))
        clear V
        go_wp2
        exact bodyPost_ret (v := .tuple #[.agg #[.int .i64 x, .int .i64 x], .int .i64 0]) (by simp [results, Tryd.results35, hr, go_sem]) rfl (RetSE.mk (s' := ⟨x, x⟩) (by have HX := X.1; have hz := HX.size; go_grown) (E.out.1.trans RS2.out) E.out.2)
end Go.Proofs.YtgflgnbbkhikcaaDoor
