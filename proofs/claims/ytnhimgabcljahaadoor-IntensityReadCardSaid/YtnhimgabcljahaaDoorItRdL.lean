/- The law IntensityRead returns true for every table and every text; nothing that was there is turned. (Printed by gen_itr.py.) -/
import Derived.Test.YtnhimgabcljahaaDoorItPr
import Derived.Test.YtnhimgabcljahaaDoorItTx
import Derived.Test.YtnhimgabcljahaaDoorItAwk
import Derived.Test.YtnhimgabcljahaaDoorIrSm
namespace Go.Proofs.YtnhimgabcljahaaDoor
open Go Go.RowKit

set_option maxRecDepth 100000 in
set_option maxHeartbeats 4000000 in
theorem read19_law (T : Tab) (a : TabA) (s : ByteArray) (w : World) (ht : TabSl w T a) (hx : TxtW w) : Calls Tryd.prog 3 #[T.val a, .string s] w (BoolPost true w) := by
  obtain ⟨A1, A2, A3, c1, c2, c3⟩ := a
  have X := hide ((Own.start w).alloc #[.slice A1 T.ds.length c1, .slice A2 T.ps.length c2, .slice A3 T.rows.length c3] 25)
  have AW := hide (fun W => awake_any W)
  have LG := hide (fun W (hb : Below w.heap.size w W) => large_any T ⟨A1, A2, A3, c1, c2, c3⟩ W (ht.below hb))
  have P1 : Hid (s.size ≤ 900000 → ∀ W, TxtW W → Calls Tryd.prog 6 #[.string s] W (PrtPost s.data.toList W)) := hide (fun h W hW => by
    have := itparse_any s.data.toList W (by simpa using h) hW
    rw [strV_data] at this
    exact this)
  have TX := hide (fun (T' : Tab) a' W (h : TabSl W T' a') hW => ittext_any T' a' W h hW)
  have VL := hide (fun (T' : Tab) a' W (h : TabSl W T' a') => tvalid_any T' a' W h)
  have P3 : Hid (vT T = true → ∀ W, TxtW W → Calls Tryd.prog 6 #[strV (txT T)] W (PrtPost (txT T) W)) := hide (fun h W hW => itparse_any (txT T) W (by have := txT_len (of_vT h); omega) hW)
  have RE : Hid (vT T = true → prF (txT T) = (T, 0, 0)) := hide prF_text
  have RB' : Hid ((prF s.data.toList).2.2 = 0 → strV (txT (prF s.data.toList).1) = .string s ∧ vT (prF s.data.toList).1 = true) := hide (fun h => by
    obtain ⟨h1, h2⟩ := prF_back h
    exact ⟨by rw [h1, strV_data], h2⟩)
  have SM := hide (fun (T' : Tab) a' b' W (h : TabSl W T' a') (h' : TabSl W T' b') => rsame19_any T' a' b' W h h')
  have HS := hide (fun W (hb : Below w.heap.size w W) => ht.below hb)
  have HT := hide (hx.below X.out.1)
  clear ht hx
  have hr := X.out.r1
  go_enter Tryd.func3, Tryd.ntmps3
  go_wp2_with fail
  refine (AW.out _).mono ?_
  rintro e w1 ⟨rfl, hb⟩
  replace X := hide (X.out.to hb)
  replace HT := hide (HT.out.below hb)
  clear hb AW hr
  have hr := X.out.r1
  unfold BoolPost at LG VL
  go_wp2_with fail
  refine (LG.out _ X.out.1).mono ?_
  rintro e w2 ⟨rfl, hb⟩
  replace X := hide (X.out.to hb)
  replace HT := hide (HT.out.below hb)
  clear hb LG hr
  have hr := X.out.r1
  cases bigT T with
  | true =>
    go_wp2
    go_ret
    exact ⟨rfl, X.out.1⟩
  | false =>
    by_cases h2 : 2000 < s.size
    · have q1 : decide ((2000 : Int) < (s.size : Int)) = true := decide_eq_true (by omega)
      go_wp2
      go_ret
      exact ⟨rfl, X.out.1⟩
    have q1 : decide ((2000 : Int) < (s.size : Int)) = false := decide_eq_false (by omega)
    have P1' := hide (P1.out (by omega))
    clear P1 h2
    unfold PrtPost at P1' P3
    generalize (prF s.data.toList).1 = T1 at *
    generalize colT (prF s.data.toList).2.1 = cl at *
    generalize (prF s.data.toList).2.1 = ln at *
    generalize (prF s.data.toList).2.2 = er at *
    go_wp2_with fail
    refine (P1'.out _ HT.out).mono ?_
    rintro e w3 ⟨hb, ⟨B1, B2, B3, d1, d2, d3⟩, rfl, hT1⟩
    have B1' := hide (((Below.refl w3.heap.size w3).alloc (Nat.le_refl _) (.cells #[.slice B1 T1.ds.length d1, .slice B2 T1.ps.length d2, .slice B3 T1.rows.length d3] 25)).alloc (by simp) (.cells #[.int .i64 ln, .int .i64 cl] 29))
    have X0 := ((X.out.to hb).alloc #[.slice B1 T1.ds.length d1, .slice B2 T1.ps.length d2, .slice B3 T1.rows.length d3] 25).alloc #[.int .i64 ln, .int .i64 cl] 29
    rw [World.size_alloc] at X0
    have X1 := hide X0
    have hT1' := hide (hT1.below B1'.out)
    replace HT := hide ((HT.out.below hb).below B1'.out)
    clear hb hr P1' X hT1 B1' X0
    have hr := X1.out.r3
    go_upto_if 31 with (fail)
    go_cut [] (fun wx => Hid (Own w wx [(w.heap.size, 25, #[.slice A1 T.ds.length c1, .slice A2 T.ps.length c2, .slice A3 T.rows.length c3])] ∧ TxtW wx))
    case first =>
      clear P3 RE SM HS
      by_cases he : er = 0
      · subst he
        obtain ⟨es, hv⟩ := RB'.out rfl
        have T2 := TX.out _ _ _ hT1'.out HT.out
        have V2 := fun W (h : TabSl W T1 ⟨B1, B2, B3, d1, d2, d3⟩) => VL.out T1 ⟨B1, B2, B3, d1, d2, d3⟩ W h
        unfold TtPost at T2
        rw [(tt_good hv).1, (tt_good hv).2, es] at T2
        rw [hv] at V2
        have T2 := hide T2
        have V2 := hide V2
        have x1 : (s.toList == s.toList) = true := by simp
        clear RB' es hv TX VL
        go_wp2_with fail
        refine T2.out.mono ?_
        rintro e w4 ⟨rfl, hb⟩
        have X2 := hide (X1.out.to hb)
        replace HT := hide (HT.out.below hb)
        replace hT1' := hide (hT1'.out.below hb)
        clear hb hr X1 T2
        have hr := X2.out.r3
        go_wp2_with fail
        refine (V2.out _ hT1'.out).mono ?_
        rintro e w5 ⟨rfl, hb⟩
        have Y := hide (And.intro (X2.out.to hb).tail.tail (HT.out.below hb))
        clear hb hr X2 V2 hT1' HT
        go_wp2_with fail
        go_meet
        exact Y
      · have q : (er == 0) = false := by simpa using he
        have Y := hide (And.intro X1.out.tail.tail HT.out)
        clear he RB' TX VL X1 HT hT1'
        go_wp2_with fail
        go_meet
        exact Y
    case rest =>
      clear hr X1 HT hT1' RB'
      have X := hide hcut.out.1
      have HT := hide hcut.out.2
      clear hcut
      have hr := X.out.r1
      have T2 := TX.out T ⟨A1, A2, A3, c1, c2, c3⟩ _ (HS.out _ X.out.1) HT.out
      unfold TtPost at T2
      cases hv : vT T with
      | false =>
        rw [(tt_bad hv).1, (tt_bad hv).2] at T2
        have T2 := hide T2
        have V2 := hide (fun W (hb : Below w.heap.size w W) => VL.out T ⟨A1, A2, A3, c1, c2, c3⟩ W (HS.out W hb))
        rw [hv] at V2
        clear P3 RE SM TX VL hv
        go_wp2_with fail
        refine T2.out.mono ?_
        rintro e w4 ⟨rfl, hb⟩
        replace X := hide (X.out.to hb)
        clear hb hr T2
        have hr := X.out.r1
        go_wp2_with fail
        refine (V2.out _ X.out.1).mono ?_
        rintro e w5 ⟨rfl, hb⟩
        replace X := hide (X.out.to hb)
        clear hb hr V2
        go_wp2
        go_ret
        exact ⟨rfl, X.out.1⟩
      | true =>
        rw [(tt_good hv).1, (tt_good hv).2] at T2
        have T2 := hide T2
        have P4 := hide (P3.out hv)
        rw [RE.out hv] at P4
        have P4 : Hid (∀ W, TxtW W → Calls Tryd.prog 6 #[strV (txT T)] W fun e w' => Below W.heap.size W w' ∧ ∃ a' : TabA, e = .returned (.tuple #[T.val a', .agg #[.int .i64 0, .int .i64 0], .int .i64 0]) ∧ TabSl w' T a') := P4
        clear P3 RE TX VL hv
        generalize txT T = tx at *
        go_wp2_with fail
        refine T2.out.mono ?_
        rintro e w4 ⟨rfl, hb⟩
        replace X := hide (X.out.to hb)
        replace HT := hide (HT.out.below hb)
        clear hb hr T2
        have hr := X.out.r1
        go_wp2_with fail
        refine (P4.out _ HT.out).mono ?_
        rintro e w5 ⟨hb, ⟨B1, B2, B3, d1, d2, d3⟩, rfl, hT2⟩
        have B2' := hide (((Below.refl w5.heap.size w5).alloc (Nat.le_refl _) (.cells #[.slice B1 T.ds.length d1, .slice B2 T.ps.length d2, .slice B3 T.rows.length d3] 25)).alloc (by simp) (.cells #[.int .i64 0, .int .i64 0] 29))
        have X0 := ((X.out.to hb).alloc #[.slice B1 T.ds.length d1, .slice B2 T.ps.length d2, .slice B3 T.rows.length d3] 25).alloc #[.int .i64 0, .int .i64 0] 29
        rw [World.size_alloc] at X0
        have X1 := hide X0
        have S2 := hide (SM.out T ⟨B1, B2, B3, d1, d2, d3⟩ ⟨A1, A2, A3, c1, c2, c3⟩ _ (hT2.below B2'.out) (HS.out _ X1.out.1))
        clear hb hr X0 X hT2 B2' P4 HT
        have hr := X1.out.r3
        go_wp2_with fail
        refine S2.out.mono ?_
        rintro e w6 ⟨rfl, hb⟩
        have X2 := hide (X1.out.to hb)
        clear hb hr X1 S2
        go_wp2
        go_ret
        exact ⟨rfl, X2.out.1⟩
end Go.Proofs.YtnhimgabcljahaaDoor
