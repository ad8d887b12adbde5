/- SpanForms: Valid, Of, Inside, Text, and Parse return what the reference says, and a span is read from its text: for all spans, numbers and strings the law returns true (printed by gen_forms.py). -/
import Derived.Test.YtgflgnbbkhikcaaDoorSpAwake
import Derived.Test.YtgflgnbbkhikcaaDoorSpTxt
import Derived.Test.YtgflgnbbkhikcaaDoorSpTxQ
import Derived.Test.YtgflgnbbkhikcaaDoorSpRef
namespace Go.Proofs.YtgflgnbbkhikcaaDoor
open Go Go.RowKit

theorem pinside_any (a b : Sp) (w : World) : Calls Tryd.prog 39 #[a.val, b.val] w fun e w' => e = .returned (.bool (vB a && vB b && insB a b)) ∧ Below w.heap.size w w' := by
  have X := ((Own.start w).alloc #[.int .i64 a.lo, .int .i64 a.hi] 23).alloc #[.int .i64 b.lo, .int .i64 b.hi] 23
  simp only [World.size_alloc] at X
  have hr := X.r2
  have A1 := hide (fun W => valid_any a W)
  have A2 := hide (fun W => valid_any b W)
  have V : Hid (insB a b = (decide (b.lo ≤ a.lo) && decide (a.hi ≤ b.hi))) := hide rfl
  generalize insB a b = ib at *
  generalize vB a = va at *
  generalize vB b = vb at *
  cases va
  · go_enter Tryd.func39, Tryd.ntmps39
    go_wp2_with fail
    refine (A1.out _).mono ?_
    rintro e w1 ⟨rfl, hb⟩
    replace X := X.to hb
    clear hb hr
    have hr := X.r2
    go_wp2
    go_ret
    exact ⟨by rw [Bool.false_and, Bool.false_and]; rfl, X.1⟩
  cases vb
  · go_enter Tryd.func39, Tryd.ntmps39
    go_wp2_with fail
    refine (A1.out _).mono ?_
    rintro e w1 ⟨rfl, hb⟩
    replace X := X.to hb
    clear hb hr
    have hr := X.r2
    go_wp2_with fail
    refine (A2.out _).mono ?_
    rintro e w1 ⟨rfl, hb⟩
    replace X := X.to hb
    clear hb hr
    have hr := X.r2
    go_wp2
    go_ret
    exact ⟨by rw [Bool.and_false, Bool.false_and]; rfl, X.1⟩
  by_cases h1 : b.lo ≤ a.lo <;> by_cases h2 : a.hi ≤ b.hi
  all_goals
    have E := hide (V.out.trans (show (decide (b.lo ≤ a.lo) && decide (a.hi ≤ b.hi)) = _ by simp only [h1, h2]; rfl))
    go_enter Tryd.func39, Tryd.ntmps39
    go_wp2_with fail
    refine (A1.out _).mono ?_
    rintro e w1 ⟨rfl, hb⟩
    replace X := X.to hb
    clear hb hr
    have hr := X.r2
    go_wp2_with fail
    refine (A2.out _).mono ?_
    rintro e w1 ⟨rfl, hb⟩
    replace X := X.to hb
    clear hb hr
    have hr := X.r2
    go_wp2
    go_ret
    exact ⟨by rw [E.out]; first | rfl | (simp; omega), X.1⟩
theorem read_eq (l : List UInt8) : psR l = rsR l ∧ psE l = rsE l := by
  obtain ⟨h1, h2⟩ := reads_same l
  unfold psR psE rsR rsE
  rw [h1]
  cases h : rsB l
  · exact ⟨rfl, rfl⟩
  · rw [h2 h]; exact ⟨rfl, rfl⟩
set_option maxRecDepth 100000 in
set_option maxHeartbeats 4000000 in
theorem forms_law (a b : Sp) (n : Int) (s : ByteArray) (w : World) (hs : s.size ≤ 9223372036854775807) (ht : TxtW w) : Calls Tryd.prog 10 #[a.val, b.val, .int .i64 n, .string s] w fun e w' => e = .returned (.bool true) ∧ Below w.heap.size w w' := by
  have X := (((Own.start w).alloc #[.int .i64 a.lo, .int .i64 a.hi] 23).alloc #[.int .i64 b.lo, .int .i64 b.hi] 23)
  simp only [World.size_alloc] at X
  have HT := hide ht
  have hr := X.r2
  clear ht
  by_cases big : 200 < s.size
  · have d1 : decide ((200 : Int) < (s.size : Int)) = true := decide_eq_true (by omega)
    go_enter Tryd.func10, Tryd.ntmps10
    go_wp2_with fail
    refine (awake_any _).mono ?_
    rintro e w0 ⟨rfl, hb⟩
    replace X := X.to hb
    clear hb hr
    have hr := X.r2
    go_wp2
    go_ret
    exact ⟨rfl, X.1⟩
  have d1 : decide ((200 : Int) < (s.size : Int)) = false := decide_eq_false (by omega)
  have A1 := hide (fun W (hW : TxtW W) => show Calls Tryd.prog 34 #[.string s] W (RetSE (psR s.data.toList) (psE s.data.toList) W) by
    have h := Parse_any s.data.toList W (by simp; omega) hW
    rwa [strV_data] at h)
  have A2 := hide (fun W => calls_se (rparse_any s W (by omega)) (read_eq s.data.toList).1.symm (read_eq s.data.toList).2.symm)
  have A3 := hide (fun W (hW : TxtW W) => Text_any a W hW)
  have A4 := hide (fun W => valid_any a W)
  have A5 := hide (fun W => rvalid_any a W)
  have A6 := hide (fun W => of_any n W)
  have A7 := hide (fun W => pinside_any a b W)
  have A8 := hide (fun W => rvalid_any b W)
  have A9 := hide (fun W => inside_any a b W)
  have A10 := hide (fun (hv : vB a = true) W (hW : TxtW W) => calls_se (Parse_any (txS a) W (by have h1 := Lib.itoa_length_le a.lo (by have := vB_in hv; omega) (by have := vB_in hv; omega); have h2 := Lib.itoa_length_le a.hi (by have := vB_in hv; omega) (by have := vB_in hv; omega); unfold txS; split <;> simp <;> omega) hW) ((ps_ok (ps_yes hv).2).1.trans (ps_yes hv).1) (ps_ok (ps_yes hv).2).2)
  have A11 := hide (fun (hv : vB a = true) W => rtext_any a W (vB_i64 hv))
  generalize psR s.data.toList = q at *
  generalize psE s.data.toList = qe at *
  generalize txS a = ta at *
  generalize insB a b = ib at *
  generalize vB a = va at *
  generalize vB b = vb at *
  clear big hs
  go_enter Tryd.func10, Tryd.ntmps10
  go_wp2_with fail
  refine (awake_any _).mono ?_
  rintro e w0 ⟨rfl, hb⟩
  replace X := X.to hb
  clear hb hr
  have hr := X.r2
  go_wp2_with fail
  refine (A1.out _ (HT.out.below X.1)).mono ?_
  rintro e w1 ⟨rfl, hb⟩
  replace X := (X.to hb).alloc #[.int .i64 q.lo, .int .i64 q.hi] 23
  clear hb hr
  have hr := X.r3
  go_wp2_with fail
  refine (A2.out _).mono ?_
  rintro e w2 ⟨rfl, hb⟩
  replace X := (X.to hb).alloc #[.int .i64 q.lo, .int .i64 q.hi] 23
  clear hb hr
  have hr := X.r4
  go_wp2_with fail
  refine (A3.out _ (HT.out.below X.1)).mono ?_
  rintro e w3 ⟨rfl, hb⟩
  replace X := X.to hb
  clear hb hr
  have hr := X.r4
  have NE : Nonempty (OwnW w [(w2.heap.size, 23, #[.int .i64 q.lo, .int .i64 q.hi]), (w1.heap.size, 23, #[.int .i64 q.lo, .int .i64 q.hi]), (w.heap.size + 1, 23, #[.int .i64 b.lo, .int .i64 b.hi]), (w.heap.size, 23, #[.int .i64 a.lo, .int .i64 a.hi])]) := ⟨⟨_, X⟩⟩
  have C1 := fun x : OwnW w [(w2.heap.size, 23, #[.int .i64 q.lo, .int .i64 q.hi]), (w1.heap.size, 23, #[.int .i64 q.lo, .int .i64 q.hi]), (w.heap.size + 1, 23, #[.int .i64 b.lo, .int .i64 b.hi]), (w.heap.size, 23, #[.int .i64 a.lo, .int .i64 a.hi])] => x.own.r4
  cases va <;> cases vb
  all_goals
    have K4 := A4.out
    have K5 := A5.out
    have K6 := A6.out
    have K7 := A7.out
    have K8 := A8.out
    have K9 := A9.out
    simp only [Bool.false_and, Bool.true_and, Bool.and_false] at K7
    go_wp2_with fail
    refine wp_region_own (w := w) (L := [(w2.heap.size, 23, #[.int .i64 q.lo, .int .i64 q.hi]), (w1.heap.size, 23, #[.int .i64 q.lo, .int .i64 q.hi]), (w.heap.size + 1, 23, #[.int .i64 b.lo, .int .i64 b.hi]), (w.heap.size, 23, #[.int .i64 a.lo, .int .i64 a.hi])]) (by kernel_rfl) (by kernel_rfl) X ?_
    repeat (go_big_quiet_step ((rename_i x; first | (with_reducible exact own_call (K4 _)) | (with_reducible exact own_call (K5 _)) | (with_reducible exact own_call (K6 _)) | (with_reducible exact own_call (K7 _)) | (with_reducible exact own_call (K8 _)) | (with_reducible exact own_call (K9 _)))))
    refine wpQuiet_nil ?_
    rintro _ ⟨⟨W, HX⟩, rfl⟩
    clear X hr C1 NE K4 K6 K7 K8 K9 A6 A7 A8 A9
    have X := HX
    clear HX
    have hr := X.r4
    go_wp2_with fail
    refine (K5 _).mono ?_
    rintro e w4 ⟨rfl, hb⟩
    replace X := X.to hb
    clear hb hr
    have hr := X.r4
    first
      | (go_wp2
         go_ret
         exact ⟨rfl, by have HX := X.1; have hz := HX.size; go_grown⟩)
      | (go_wp2_with fail
         refine (A10.out (by trivial) _ (HT.out.below X.1)).mono ?_
         rintro e w5 ⟨rfl, hb⟩
         replace X := (X.to hb).alloc #[.int .i64 a.lo, .int .i64 a.hi] 23
         clear hb hr
         have hr := X.r5
         go_wp2_with fail
         refine (A11.out (by trivial) _).mono ?_
         rintro e w6 ⟨rfl, hb⟩
         replace X := X.to hb
         clear hb hr
         have hr := X.r5
         go_wp2
         go_ret
         exact ⟨rfl, by have HX := X.1; have hz := HX.size; go_grown⟩)
end Go.Proofs.YtgflgnbbkhikcaaDoor
