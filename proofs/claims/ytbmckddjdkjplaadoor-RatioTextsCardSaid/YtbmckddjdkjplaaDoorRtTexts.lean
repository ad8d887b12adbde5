/- RatioTexts: Text and Parse return what the reference says, and a fraction is read from its text: for all fractions and strings the law returns true (printed by gen_rttexts.py). -/
import Derived.Test.YtbmckddjdkjplaaDoorRtAwake
import Derived.Test.YtbmckddjdkjplaaDoorRtTxt
import Derived.Test.YtbmckddjdkjplaaDoorRtTxQ
import Derived.Test.YtbmckddjdkjplaaDoorOwn3
namespace Go.Proofs.YtbmckddjdkjplaaDoor
open Go Go.RowKit

theorem calls_fe2 {f : FuncId} {args : Array Value} {w : World} {s t : Fr} {er er' : Int} (h : Calls Tryd.prog f args w (RetFE s er w)) (h1 : s = t) (h2 : er = er') : Calls Tryd.prog f args w (RetFE t er' w) := by subst h1 h2; exact h
theorem calls_fb {f : FuncId} {args : Array Value} {w : World} {s t : Fr} {b b' : Bool} (h : Calls Tryd.prog f args w (RetFB s b w)) (h1 : s = t) (h2 : b = b') : Calls Tryd.prog f args w (RetFB t b' w) := by subst h1 h2; exact h
theorem read_eq (l : List UInt8) : prR l = rqR l ∧ prE l = if rdB l then 0 else 7 := by
  obtain ⟨h1, h2⟩ := read_same l
  unfold prR prE rqR
  rw [h1]
  cases h : rdB l
  · exact ⟨rfl, rfl⟩
  · rw [h2 h]; exact ⟨rfl, rfl⟩
set_option maxRecDepth 100000 in
set_option maxHeartbeats 4000000 in
theorem texts_law (a : Fr) (s : ByteArray) (w : World) (hs : s.size ≤ 9223372036854775807) (ht : TxtW w) : Calls Tryd.prog 12 #[a.val, .string s] w fun e w' => e = .returned (.bool true) ∧ Below w.heap.size w w' := by
  have X := ((Own.start w).alloc #[.int .i64 a.num, .int .i64 a.den] 24)
  have HT := hide ht
  have HP : Hid (PowTab w) := hide ht.1
  have hr := X.r1
  clear ht
  by_cases big : 1000 < s.size
  · have d1 : decide ((1000 : Int) < (s.size : Int)) = true := decide_eq_true (by omega)
    go_enter Tryd.func12, Tryd.ntmps12
    go_wp2_with fail
    refine (awake_any _ (HP.out.below X.1)).mono ?_
    rintro e w0 ⟨rfl, hb⟩
    replace X := X.to hb
    clear hb hr
    have hr := X.r1
    go_wp2
    go_ret
    exact ⟨rfl, X.1⟩
  have d1 : decide ((1000 : Int) < (s.size : Int)) = false := decide_eq_false (by omega)
  have A1 := hide (fun W (hW : TxtW W) => show Calls Tryd.prog 39 #[.string s] W (RetFE (rqR s.data.toList) (if rdB s.data.toList then 0 else 7) W) by
    have h := calls_fe2 (Parse_any s.data.toList W (by simp; omega) hW) (read_eq s.data.toList).1 (read_eq s.data.toList).2
    rwa [strV_data] at h)
  have A2 := hide (fun W => rparse_any s W (by omega))
  have A3 := hide (fun W (hW : TxtW W) => Text_any a W hW)
  have A5 := hide (fun W => refv_any a W)
  have A10 := hide (fun (hv : vF a = true) W (hW : TxtW W) => calls_fe2 (Parse_any (txF a) W (by have h1 := Lib.itoa_length_le a.num (by have := vF_in hv; omega) (by have := vF_in hv; omega); have h2 := Lib.itoa_length_le a.den (by have := vF_in hv; omega) (by have := vF_in hv; omega); unfold txF; split <;> simp <;> omega) hW) ((pr_ok (pr_yes hv).2).1.trans (pr_yes hv).1) (pr_ok (pr_yes hv).2).2)
  have A11 := hide (fun (hv : vF a = true) W => rtext_any a W (vF_i64 hv))
  have NO := hide (fun h => rq_no (l := s.data.toList) h)
  generalize rqR s.data.toList = q at *
  generalize rdB s.data.toList = rb at *
  generalize txF a = ta at *
  generalize vF a = va at *
  clear big hs
  cases rb
  · obtain ⟨rfl, -⟩ := NO.out rfl
    clear NO
    simp only [if_false, Bool.false_eq_true] at A1
    cases va
    all_goals
      go_enter Tryd.func12, Tryd.ntmps12
      go_wp2_with fail
      refine (awake_any _ (HP.out.below X.1)).mono ?_
      rintro e w0 ⟨rfl, hb⟩
      replace X := X.to hb
      clear hb hr
      have hr := X.r1
      go_wp2_with fail
      refine (A1.out _ (HT.out.below X.1)).mono ?_
      rintro e w1 ⟨rfl, hb⟩
      replace X := (X.to hb).alloc #[.int .i64 0, .int .i64 0] 24
      clear hb hr
      have hr := X.r2
      go_wp2_with fail
      refine (A2.out _).mono ?_
      rintro e w2 ⟨rfl, hb⟩
      replace X := (X.to hb).alloc #[.int .i64 0, .int .i64 0] 24
      clear hb hr
      have hr := X.r3
      go_wp2_with fail
      refine (A3.out _ (HT.out.below X.1)).mono ?_
      rintro e w3 ⟨rfl, hb⟩
      replace X := X.to hb
      clear hb hr
      have hr := X.r3
      go_wp2_with fail
      refine (A5.out _).mono ?_
      rintro e w4 ⟨rfl, hb⟩
      replace X := X.to hb
      clear hb hr
      have hr := X.r3
      first
        | (go_wp2
           go_ret
           exact ⟨rfl, by have HX := X.1; have hz := HX.size; go_grown⟩)
        | (go_wp2_with fail
           refine (A10.out (by trivial) _ (HT.out.below X.1)).mono ?_
           rintro e w5 ⟨rfl, hb⟩
           replace X := (X.to hb).alloc #[.int .i64 a.num, .int .i64 a.den] 24
           clear hb hr
           have hr := X.r4
           go_wp2_with fail
           refine (A11.out (by trivial) _).mono ?_
           rintro e w6 ⟨rfl, hb⟩
           replace X := X.to hb
           clear hb hr
           have hr := X.r4
           go_wp2
           go_ret
           exact ⟨rfl, by have HX := X.1; have hz := HX.size; go_grown⟩)
  · clear NO
    simp only [if_true] at A1
    cases va
    all_goals
      go_enter Tryd.func12, Tryd.ntmps12
      go_wp2_with fail
      refine (awake_any _ (HP.out.below X.1)).mono ?_
      rintro e w0 ⟨rfl, hb⟩
      replace X := X.to hb
      clear hb hr
      have hr := X.r1
      go_wp2_with fail
      refine (A1.out _ (HT.out.below X.1)).mono ?_
      rintro e w1 ⟨rfl, hb⟩
      replace X := (X.to hb).alloc #[.int .i64 q.num, .int .i64 q.den] 24
      clear hb hr
      have hr := X.r2
      go_wp2_with fail
      refine (A2.out _).mono ?_
      rintro e w2 ⟨rfl, hb⟩
      replace X := (X.to hb).alloc #[.int .i64 q.num, .int .i64 q.den] 24
      clear hb hr
      have hr := X.r3
      go_wp2_with fail
      refine (A3.out _ (HT.out.below X.1)).mono ?_
      rintro e w3 ⟨rfl, hb⟩
      replace X := X.to hb
      clear hb hr
      have hr := X.r3
      go_wp2_with fail
      refine (A5.out _).mono ?_
      rintro e w4 ⟨rfl, hb⟩
      replace X := X.to hb
      clear hb hr
      have hr := X.r3
      first
        | (go_wp2
           go_ret
           exact ⟨rfl, by have HX := X.1; have hz := HX.size; go_grown⟩)
        | (go_wp2_with fail
           refine (A10.out (by trivial) _ (HT.out.below X.1)).mono ?_
           rintro e w5 ⟨rfl, hb⟩
           replace X := (X.to hb).alloc #[.int .i64 a.num, .int .i64 a.den] 24
           clear hb hr
           have hr := X.r4
           go_wp2_with fail
           refine (A11.out (by trivial) _).mono ?_
           rintro e w6 ⟨rfl, hb⟩
           replace X := X.to hb
           clear hb hr
           have hr := X.r4
           go_wp2
           go_ret
           exact ⟨rfl, by have HX := X.1; have hz := HX.size; go_grown⟩)
end Go.Proofs.YtbmckddjdkjplaaDoor
