/- The law LanduseTexts returns true for every list and text; nothing that was there is turned. -/
import Derived.Test.YtaaadejamjbcbaaDoorRuTx
import Derived.Test.YtaaadejamjbcbaaDoorRpar
import Derived.Test.YtaaadejamjbcbaaDoorClEq
import Derived.Test.YtaaadejamjbcbaaDoorSeal
import Derived.Test.YtaaadejamjbcbaaDoorAwk15
namespace Go.Proofs.YtaaadejamjbcbaaDoor
open Go Go.RowKit

set_option maxRecDepth 100000 in
set_option maxHeartbeats 4000000 in
theorem texts_law (l : List Cls) (A : Option Addr) (cap : Nat) (s : ByteArray) (w : World) (hl : ClsSl w A l) (hs : s.size ≤ maxLen) (ht : TxtW w) :
    Calls Tryd.prog 6 #[.slice A l.length cap, .string s] w (RetV (.bool true) w) := by
  have hlen : l.length ≤ 9223372036854775807 := hl.1.1
  unfold maxLen at hs
  have hs2 : s.size ≤ 9223372036854775807 := by omega
  have AW := hide (awake_any w ht)
  have X := Own.start w
  have HL := hide hl
  have HT := hide ht
  have LG := hide (fun W h => long_any l A cap W h)
  have TX := hide (fun W h h2 => lutext_any l A cap W h h2)
  have RV := hide (fun W h => rvalid_any l A cap W h)
  have RT := hide (fun W h hv => rutext_any l A cap W h hv)
  unfold TxPost at TX
  have TG := hide (fun hv => tx_good (l := l) hv)
  have TB := hide (fun hv => tx_bad (l := l) hv)
  have hsl : s.data.toList.length = s.size := by simp
  clear hl ht
  have ways : (longB l = true) ∨ (longB l = false ∧ decide ((2000 : Int) < (s.size : Int)) = true ∧ decide ((s.size : Int) ≤ 262144) = true) ∨
      (longB l = false ∧ decide ((2000 : Int) < (s.size : Int)) = true ∧ decide ((s.size : Int) ≤ 262144) = false ∧ decide ((262154 : Int) < (s.size : Int)) = true) ∨
      (longB l = false ∧ decide ((2000 : Int) < (s.size : Int)) = true ∧ decide ((s.size : Int) ≤ 262144) = false ∧ decide ((262154 : Int) < (s.size : Int)) = false) ∨
      (longB l = false ∧ decide ((2000 : Int) < (s.size : Int)) = false ∧ decide ((262154 : Int) < (s.size : Int)) = false) := by
    by_cases h1 : (2000 : Int) < (s.size : Int) <;> by_cases h2 : (s.size : Int) ≤ 262144 <;> by_cases h3 : (262154 : Int) < (s.size : Int) <;> cases longB l <;> simp [h1, h2, h3] <;> omega
  rcases ways with q1 | ⟨q1, q2, q3⟩ | ⟨q1, q2, q3, q4⟩ | ⟨q1, q2, q3, q4⟩ | ⟨q1, q2, q4⟩
  iterate 3
    · rw [q1] at LG
      clear q1
      go_enter Tryd.func6, Tryd.ntmps6
      go_wp2_with fail
      refine AW.out.mono ?_
      rintro e w1 ⟨rfl, hb⟩
      replace X := X.to hb
      replace HL := hide (HL.out.below hb)
      clear hb
      go_wp2_with fail
      refine (LG.out _ HL.out).mono ?_
      rintro e w2 ⟨rfl, hb⟩
      replace X := X.to hb
      clear hb
      go_wp2
      go_ret
      exact ⟨rfl, X.1⟩
  all_goals
    have sb : s.size ≤ 900000 := by have := of_decide_eq_false q4; omega
    have PR := hide (fun W h => parse_any s.data.toList W (by omega) h)
    have RP := hide (fun W => rparse_any s W sb)
    have PE := prs_err (pts 10 s.data.toList) 0 []
    have PN : 0 ≤ (prsF s.data.toList).2.1 := by
      unfold prsF
      split
      · simp
      · exact PE.2.2.1
    unfold PrsPost at PR
    unfold RpPost at RP
    rw [strV_data] at PR
    rw [q1] at LG
    clear q1 sb PE hsl
    have EQ := hide (fun W A B c c' h h' => equalC_any (prsF s.data.toList).1 A B c c' W h h')
    generalize (prsF s.data.toList).1 = pl at *
    generalize (prsF s.data.toList).2.1 = ln at *
    generalize (prsF s.data.toList).2.2 = er at *
    have ways2 : (ln = 0) ∨ (0 < ln) := by omega
    rcases Bool.eq_false_or_eq_true (validB l) with hv | hv
    all_goals
      first | (obtain ⟨e1, e2⟩ := TG.out hv; replace RT := hide (fun W h => RT.out W h hv)) | (obtain ⟨e1, e2⟩ := TB.out hv; clear RT)
      rw [e1, e2] at TX
      rw [hv] at RV
      clear hv e1 e2 TG TB
      first | generalize txL l = tx at * | skip
      rcases ways2 with rfl | hln
      all_goals
        first | (have d0 : decide ((0 : Int) < ln) = true := decide_eq_true hln; have cv : colI ln = 1 := (by unfold colI; rw [if_neg (by omega)]); rw [cv] at PR; clear cv) | (have cv : colI 0 = 0 := rfl; rw [cv] at PR; clear cv)
        go_enter Tryd.func6, Tryd.ntmps6
        go_wp2_with fail
        refine AW.out.mono ?_
        rintro e w1 ⟨rfl, hb⟩
        replace X := X.to hb
        replace HL := hide (HL.out.below hb)
        clear hb
        go_wp2_with fail
        refine (LG.out _ HL.out).mono ?_
        rintro e w2 ⟨rfl, hb⟩
        replace X := X.to hb
        replace HL := hide (HL.out.below hb)
        clear hb
        go_wp2_with fail
        refine (TX.out _ HL.out (HT.out.below X.1)).mono ?_
        rintro e w3 ⟨rfl, hb⟩
        replace X := X.to hb
        replace HL := hide (HL.out.below hb)
        clear hb
        go_wp2_with fail
        refine (RV.out _ HL.out).mono ?_
        rintro e w4 ⟨rfl, hb⟩
        replace X := X.to hb
        replace HL := hide (HL.out.below hb)
        clear hb
        first
          | (go_wp2_with fail
             refine (RT.out _ HL.out).mono ?_
             rintro e w5 ⟨rfl, hb⟩
             replace X := X.to hb
             replace HL := hide (HL.out.below hb)
             clear hb)
          | skip
        go_wp2_with fail
        refine (PR.out _ (HT.out.below X.1)).mono ?_
        rintro e w6 ⟨hb, A1, c1, rfl, h1, _⟩
        first
          | (replace X := (X.to hb).alloc #[.int .i64 ln, .int .i64 1] 47
             have H1 := hide (h1.below ((Below.refl _ w6).alloc (Nat.le_refl _) (.cells #[.int .i64 ln, .int .i64 1] 47))))
          | (replace X := (X.to hb).alloc #[.int .i64 0, .int .i64 0] 47
             have H1 := hide (h1.below ((Below.refl _ w6).alloc (Nat.le_refl _) (.cells #[.int .i64 0, .int .i64 0] 47))))
        have hr := X.r1
        clear hb h1
        go_wp2_with fail
        refine (RP.out _).mono ?_
        rintro e w7 ⟨hb, A2, c2, rfl, h2, _⟩
        have H2 := hide (H1.out.below hb)
        have H3 := hide h2
        replace X := (X.to hb)
        clear hb hr h2
        have hr := X.r1
        go_wp2_with fail
        refine (EQ.out _ A1 A2 c1 c2 (H2.out.below ((Below.refl _ w7).alloc (Nat.le_refl _) _)) (H3.out.below ((Below.refl _ w7).alloc (Nat.le_refl _) _))).mono ?_
        rintro e w8 ⟨rfl, hb⟩
        first
          | (replace X := (X.alloc #[.int .i64 ln, .int .i64 1] 47).to hb)
          | (replace X := (X.alloc #[.int .i64 0, .int .i64 0] 47).to hb)
        clear hb hr
        have hr := X.r2
        go_wp2
        go_ret
        exact ⟨rfl, X.1⟩
end Go.Proofs.YtaaadejamjbcbaaDoor
