/- The program's texts of fractions: Text, Parse: what each returns; nothing that was there is turned. -/
import Derived.Test.YtbmckddjdkjplaaDoorRtTxP
import Derived.Test.YtbmckddjdkjplaaDoorRtFn
import Derived.Test.YtbmckddjdkjplaaDoorOwnQ
import Derived.Test.YtbmckddjdkjplaaDoorOwn3
namespace Go.Proofs.YtbmckddjdkjplaaDoor
open Go Go.RowKit

theorem vF_i64 {a : Fr} (h : vF a = true) : (-9223372036854775808 ≤ a.num ∧ a.num ≤ 9223372036854775807) ∧ -9223372036854775808 ≤ a.den ∧ a.den ≤ 9223372036854775807 := by
  have := vF_in h
  omega
set_option maxRecDepth 100000 in
set_option maxHeartbeats 1000000 in
theorem Text_any (a : Fr) (w : World) (ht : TxtW w) : Calls Tryd.prog 41 #[a.val] w (RetV (.tuple #[strV (if vF a then txF a else []), .int .i64 (if vF a then 0 else 1)]) w) := by
  have X := (Own.start w).alloc #[.int .i64 a.num, .int .i64 a.den] 24
  have HT := hide ht
  have hr := X.r1
  have V := hide (fun W => rvalid_any a W)
  clear ht
  rcases Bool.eq_false_or_eq_true (vF a) with h | h
  · have ha := vF_i64 h
    have I1 := hide (fun W hW => itoaL a.num W ha.1.1 ha.1.2 hW)
    have I2 := hide (fun W hW => itoaL a.den W ha.2.1 ha.2.2 hW)
    have l1 := Lib.itoa_length_le a.num ha.1.1 ha.1.2
    have l2 := Lib.itoa_length_le a.den ha.2.1 ha.2.2
    have E : Hid (txF a = if a.den = 1 then Lib.itoa a.num else Lib.itoa a.num ++ 47 :: Lib.itoa a.den) := hide rfl
    rw [h] at V
    rw [h]
    clear h ha
    generalize Lib.itoa a.num = sl at *
    generalize Lib.itoa a.den = sh at *
    have c1 : (⟨#[47]⟩ : ByteArray) ++ ⟨sh.toArray⟩ = ⟨(47 :: sh).toArray⟩ := ba_append [47] sh
    have c2 := ba_append sl (47 :: sh)
    have l3 : ¬ 9223372036854775807 < 1 + sh.length := by omega
    have l4 : ¬ 9223372036854775807 < sl.length + (sh.length + 1) := by omega
    by_cases d1 : a.den = 1
    · have e0 : (a.den == 1) = true := by simpa using d1
      have E2 : Hid (txF a = sl) := hide (by rw [E.out, if_pos d1])
      clear E d1
      go_enter Tryd.func41, Tryd.ntmps41
      go_wp2_with fail
      refine (V.out _).mono ?_
      rintro e w1 ⟨rfl, hb⟩
      replace X := X.to hb
      clear hb hr
      have hr := X.r1
      go_wp2_with fail
      refine (I1.out _ (HT.out.below X.1)).mono ?_
      rintro e w2 ⟨rfl, hb⟩
      replace X := X.to hb
      clear hb hr
      have hr := X.r1
      go_wp2
      go_ret2
      exact ⟨by simp only [E2.out]; rfl, X.1⟩
    · have e0 : (a.den == 1) = false := by simpa using d1
      have E2 : Hid (txF a = sl ++ 47 :: sh) := hide (by rw [E.out, if_neg d1])
      clear E d1
      go_enter Tryd.func41, Tryd.ntmps41
      go_wp2_with fail
      refine (V.out _).mono ?_
      rintro e w1 ⟨rfl, hb⟩
      replace X := X.to hb
      clear hb hr
      have hr := X.r1
      go_wp2_with fail
      refine (I1.out _ (HT.out.below X.1)).mono ?_
      rintro e w2 ⟨rfl, hb⟩
      replace X := X.to hb
      clear hb hr
      have hr := X.r1
      go_wp2_with fail
      refine (I2.out _ (HT.out.below X.1)).mono ?_
      rintro e w3 ⟨rfl, hb⟩
      replace X := X.to hb
      clear hb hr
      have hr := X.r1
      go_wp2
      go_ret2
      exact ⟨by simp only [E2.out]; rfl, X.1⟩
  · rw [h] at V
    rw [h]
    clear h
    go_enter Tryd.func41, Tryd.ntmps41
    go_wp2_with fail
    refine (V.out _).mono ?_
    rintro e w1 ⟨rfl, hb⟩
    replace X := X.to hb
    clear hb hr
    have hr := X.r1
    go_wp2
    go_ret2
    exact ⟨rfl, X.1⟩
def prR (l : List UInt8) : Fr := if prB l then prF l else Fr.zero
def prE (l : List UInt8) : Int := if prB l then 0 else 7
theorem pr_no {l : List UInt8} (h : prB l = false) : prR l = ⟨0, 0⟩ ∧ prE l = 7 := by unfold prR prE; rw [h]; exact ⟨rfl, rfl⟩
theorem pr_ok {l : List UInt8} (h : prB l = true) : prR l = prF l ∧ prE l = 0 := by unfold prR prE; rw [h]; exact ⟨rfl, rfl⟩
theorem RetFE.mk2 {s s' : Fr} {er er' : Int} {w w' : World} (hb : Below w.heap.size w w') (h1 : s = s') (h2 : er = er') : RetFE s er w (.returned (.tuple #[s'.val, .int .i64 er'])) w' := by subst h1 h2; exact ⟨rfl, hb⟩
set_option maxRecDepth 100000 in
set_option maxHeartbeats 2000000 in
theorem Parse_any (l : List UInt8) (w : World) (hl : l.length ≤ 4294967280) (ht : TxtW w) : Calls Tryd.prog 39 #[strV l] w (RetFE (prR l) (prE l) w) := by
  have X := (Own.start w).alloc #[.int .i64 0, .int .i64 0] 24
  have HT := hide ht
  have CU := hide (fun W hW => cutLL l [47] W (by omega) hW)
  have cl := cut_len l [47]
  have A1 := hide (fun W hW => atoiL (cutN l) W (by unfold cutN; omega) hW)
  have A2 := hide (fun W hW => atoiL (cutD l) W (by unfold cutD; split <;> first | omega | simp) hW)
  have T := hide (fun W hW => Text_any (prF l) W hW)
  have PB : Hid (prB l = (atB (cutN l) && atB (cutD l) && vF (prF l) && decide (txF (prF l) = l))) := hide rfl
  have N := hide (fun h => pr_no (l := l) h)
  have Y := hide (fun h => pr_ok (l := l) h)
  have EH : Hid (((Lib.cut l [47]).2.2 = true → cutD l = (Lib.cut l [47]).2.1) ∧ ((Lib.cut l [47]).2.2 = false → cutD l = [49])) := hide ⟨fun h => by unfold cutD; rw [if_pos h], fun h => by unfold cutD; rw [if_neg (by rw [h]; simp)]⟩
  have eL : (Lib.cut l [47]).1 = cutN l := rfl
  have eS : prF l = ⟨atV (cutN l), atV (cutD l)⟩ := rfl
  rw [eL] at CU
  have bL := atV_bd (cutN l)
  have bH := atV_bd (cutD l)
  clear ht hl cl eL
  rw [eS] at T PB Y
  clear eS
  generalize atV (cutN l) = x at *
  generalize atV (cutD l) = y at *
  generalize txF ⟨x, y⟩ = tx at *
  generalize vF ⟨x, y⟩ = vv at *
  generalize prB l = pb at *
  generalize prR l = pr at *
  generalize prE l = pe at *
  generalize atB (cutN l) = b1 at *
  generalize atB (cutD l) = b2 at *
  generalize cutN l = sL at *
  generalize cutD l = sH at *
  generalize (Lib.cut l [47]).2.1 = s2 at *
  generalize (Lib.cut l [47]).2.2 = tw at *
  have hr := X.r1
  go_enter Tryd.func39, Tryd.ntmps39
  go_wp2_with fail
  refine (CU.out _ (HT.out.below X.1)).mono ?_
  rintro e w1 ⟨rfl, hb⟩
  replace X := X.to hb
  clear hb hr
  have hr := X.r1
  cases tw
  all_goals
    first | obtain rfl := EH.out.2 rfl | obtain rfl := EH.out.1 rfl
    clear EH
    go_wp2_with fail
    refine (A1.out _ (HT.out.below X.1)).mono ?_
    rintro e w2 ⟨⟨ev1, rfl, h1, h2⟩, hb⟩
    replace X := X.to hb
    clear hb hr
    have hr := X.r1
    go_wp2_with fail
    refine (A2.out _ (HT.out.below X.1)).mono ?_
    rintro e w3 ⟨⟨ev2, rfl, k1, k2⟩, hb⟩
    replace X := (X.to hb).alloc #[.int .i64 x, .int .i64 y] 24
    clear hb hr
    have hr := X.r2
    go_wp2_with fail
    refine (T.out _ (HT.out.below X.1)).mono ?_
    rintro e w5 ⟨rfl, hb⟩
    replace X := X.to hb
    clear hb hr
    have hr := X.r2
    cases vv
    · have E := hide (N.out (by rw [PB.out]; simp))
      cases b1
      · obtain ⟨te, pe1, rfl⟩ := h2 rfl
        clear h1 h2 k1 k2
        go_wp2
        exact bodyPost_ret (v := .tuple #[.agg #[.int .i64 0, .int .i64 0], .int .i64 7]) (by simp [results, Tryd.results39, hr, go_sem]) rfl (RetFE.mk2 (s' := ⟨0, 0⟩) (by have HX := X.1; have hz := HX.size; go_grown) E.out.1 E.out.2)
      obtain rfl := h1 rfl
      cases b2
      · obtain ⟨te, pe1, rfl⟩ := k2 rfl
        clear h1 h2 k1 k2
        go_wp2
        exact bodyPost_ret (v := .tuple #[.agg #[.int .i64 0, .int .i64 0], .int .i64 7]) (by simp [results, Tryd.results39, hr, go_sem]) rfl (RetFE.mk2 (s' := ⟨0, 0⟩) (by have HX := X.1; have hz := HX.size; go_grown) E.out.1 E.out.2)
      obtain rfl := k1 rfl
      clear h1 h2 k1 k2
      go_wp2
      exact bodyPost_ret (v := .tuple #[.agg #[.int .i64 0, .int .i64 0], .int .i64 7]) (by simp [results, Tryd.results39, hr, go_sem]) rfl (RetFE.mk2 (s' := ⟨0, 0⟩) (by have HX := X.1; have hz := HX.size; go_grown) E.out.1 E.out.2)
    cases b1
    · obtain ⟨te, pe1, rfl⟩ := h2 rfl
      have E := hide (N.out (by rw [PB.out]; simp))
      clear h1 h2 k1 k2
      go_wp2
      exact bodyPost_ret (v := .tuple #[.agg #[.int .i64 0, .int .i64 0], .int .i64 7]) (by simp [results, Tryd.results39, hr, go_sem]) rfl (RetFE.mk2 (s' := ⟨0, 0⟩) (by have HX := X.1; have hz := HX.size; go_grown) E.out.1 E.out.2)
    obtain rfl := h1 rfl
    cases b2
    · obtain ⟨te, pe1, rfl⟩ := k2 rfl
      have E := hide (N.out (by rw [PB.out]; simp))
      clear h1 h2 k1 k2
      go_wp2
      exact bodyPost_ret (v := .tuple #[.agg #[.int .i64 0, .int .i64 0], .int .i64 7]) (by simp [results, Tryd.results39, hr, go_sem]) rfl (RetFE.mk2 (s' := ⟨0, 0⟩) (by have HX := X.1; have hz := HX.size; go_grown) E.out.1 E.out.2)
    obtain rfl := k1 rfl
    clear h1 h2 k1 k2
    by_cases q : tx = l
    · have E := hide (Y.out (by rw [PB.out]; simp [q]))
      have q1 : (tx == l) = true := by simp [q]
      clear q
      go_wp2
      exact bodyPost_ret (v := .tuple #[.agg #[.int .i64 x, .int .i64 y], .int .i64 0]) (by simp [results, Tryd.results39, hr, go_sem]) rfl (RetFE.mk2 (s' := ⟨x, y⟩) (by have HX := X.1; have hz := HX.size; go_grown) E.out.1 E.out.2)
    · have E := hide (N.out (by rw [PB.out]; simp [q]))
      have q1 : (tx == l) = false := by simp [q]
      clear q
      go_wp2
      exact bodyPost_ret (v := .tuple #[.agg #[.int .i64 0, .int .i64 0], .int .i64 7]) (by simp [results, Tryd.results39, hr, go_sem]) rfl (RetFE.mk2 (s' := ⟨0, 0⟩) (by have HX := X.1; have hz := HX.size; go_grown) E.out.1 E.out.2)
end Go.Proofs.YtbmckddjdkjplaaDoor
