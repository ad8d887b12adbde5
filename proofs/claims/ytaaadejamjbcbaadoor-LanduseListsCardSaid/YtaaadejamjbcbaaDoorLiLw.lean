/- The law LanduseLists returns true for every list, name and areas; nothing that was there is turned. -/
import Derived.Test.YtaaadejamjbcbaaDoorLiLaw
namespace Go.Proofs.YtaaadejamjbcbaaDoor
open Go Go.RowKit

theorem fi_cases {l : List Cls} {nm : ByteArray} (hv : validB l = true) : (findI l nm < 0 ∧ fiI l nm = 0 ∧ fiE l nm = 9) ∨ (0 ≤ findI l nm ∧ fiI l nm = findI l nm ∧ fiE l nm = 0) := by
  by_cases h : findI l nm < 0
  · exact .inl ⟨h, by simp [fiI, hv, h], by simp [fiE, hv, h]⟩
  · exact .inr ⟨by omega, by simp [fiI, hv, h], by simp [fiE, hv, h]⟩
theorem fi_bad {l : List Cls} {nm : ByteArray} (hv : validB l = false) : fiI l nm = 0 ∧ fiE l nm = 1 := by simp [fiI, fiE, hv]
set_option maxRecDepth 100000 in
set_option maxHeartbeats 4000000 in
theorem lists_law (l : List Cls) (A : Option Addr) (cap : Nat) (nm : ByteArray) (ar : List Int) (B : Option Addr) (cap2 : Nat) (w : World) (hl : ClsSl w A l) (hn : nm.size ≤ maxLen) (ha : IntSl w B ar) (ht : TxtW w) :
    Calls Tryd.prog 5 #[.slice A l.length cap, .string nm, .slice B ar.length cap2] w (RetV (.bool true) w) := by
  have hlen : l.length ≤ 9223372036854775807 := hl.1.1
  have hal : ar.length ≤ 9223372036854775807 := ha.1.1
  unfold maxLen at hn
  have hn2 : nm.size ≤ 9223372036854775807 := by omega
  have AW := hide (awake_any w ht)
  have X := Own.start w
  have HL := hide hl
  have HA := hide ha
  have LG := hide (fun W h => long_any l A cap W h)
  have FI := hide (fun W h => find_any l A cap nm W h)
  have SE := hide (fun W h h2 => sealed_any l A cap ar B cap2 W h h2)
  have RV := hide (fun W h => rvalid_any l A cap W h)
  have V := hide (fun W h => luvalid_any l A cap W h)
  have RF := hide (fun W h => rfind_any l A cap nm W h)
  have RS := hide (fun W h h2 hv => rsealed_any l A cap ar B cap2 W h h2 hv)
  unfold SePost at SE RS
  have bd := findI_bd l nm
  have FB := hide (fun hv => fi_bad (l := l) (nm := nm) hv)
  have FC := hide (fun hv => fi_cases (l := l) (nm := nm) hv)
  have SB := hide (fun hv => sl_bad (l := l) (ar := ar) hv)
  have SG := hide (fun hv => sl_good (l := l) (ar := ar) hv)
  clear hl ha ht hn
  have ways : (longB l = true) ∨ (longB l = false ∧ decide ((60 : Int) < (nm.size : Int)) = true) ∨ (longB l = false ∧ decide ((60 : Int) < (nm.size : Int)) = false ∧ decide ((30 : Int) < (ar.length : Int)) = true) ∨
      (longB l = false ∧ decide ((60 : Int) < (nm.size : Int)) = false ∧ decide ((30 : Int) < (ar.length : Int)) = false) := by
    cases longB l <;> cases decide ((60 : Int) < (nm.size : Int)) <;> cases decide ((30 : Int) < (ar.length : Int)) <;> simp
  rcases ways with q1 | ⟨q1, q2⟩ | ⟨q1, q2, q3⟩ | ⟨q1, q2, q3⟩
  iterate 3
    · rw [q1] at LG
      clear q1
      go_enter Tryd.func5, Tryd.ntmps5
      go_wp2_with fail
      refine AW.out.mono ?_
      rintro e w1 ⟨rfl, hb⟩
      replace X := X.to hb
      replace HL := hide (HL.out.below hb)
      clear hb
      go_wp2_with fail
      refine (LG.out _ HL.out).mono ?_
      rintro e w2 ⟨rfl, hb⟩
      replace X := X.to hb
      clear hb
      go_wp2
      go_ret
      exact ⟨rfl, X.1⟩
  rw [q1] at LG
  clear q1
  rcases Bool.eq_false_or_eq_true (validB l) with hv | hv
  case inr =>
    obtain ⟨f1, f2⟩ := FB.out hv
    obtain ⟨s1, s2, s3⟩ := SB.out hv
    rw [hv] at RV V
    rw [f1, f2] at FI
    rw [s1, s2, s3] at SE
    clear hv f1 f2 s1 s2 s3 FB FC SB SG RS RF bd
    go_enter Tryd.func5, Tryd.ntmps5
    go_wp2_with fail
    refine AW.out.mono ?_
    rintro e w1 ⟨rfl, hb⟩
    replace X := X.to hb
    replace HL := hide (HL.out.below hb)
    replace HA := hide (HA.out.below hb)
    clear hb
    go_wp2_with fail
    refine (LG.out _ HL.out).mono ?_
    rintro e w2 ⟨rfl, hb⟩
    replace X := X.to hb
    replace HL := hide (HL.out.below hb)
    replace HA := hide (HA.out.below hb)
    clear hb
    go_wp2_with fail
    refine (FI.out _ HL.out).mono ?_
    rintro e w3 ⟨rfl, hb⟩
    replace X := X.to hb
    replace HL := hide (HL.out.below hb)
    replace HA := hide (HA.out.below hb)
    clear hb
    go_wp2_with fail
    refine (SE.out _ HL.out HA.out).mono ?_
    rintro e w4 ⟨rfl, hb⟩
    replace X := X.to hb
    replace HL := hide (HL.out.below hb)
    clear hb
    go_wp2_with fail
    refine (RV.out _ HL.out).mono ?_
    rintro e w5 ⟨rfl, hb⟩
    replace X := X.to hb
    replace HL := hide (HL.out.below hb)
    clear hb
    go_wp2_with fail
    refine (V.out _ HL.out).mono ?_
    rintro e w6 ⟨rfl, hb⟩
    replace X := X.to hb
    clear hb
    go_wp2
    go_ret
    exact ⟨rfl, X.1⟩
  obtain ⟨s1, s2, s3⟩ := SG.out hv
  replace RS := hide (fun W h h2 => RS.out W h h2 hv)
  rw [s1, s2, s3] at SE
  rw [hv] at RV V
  have fc := FC.out hv
  clear hv s1 s2 s3 FB FC SB SG
  generalize seYr l ar = yr at *
  generalize seNr l ar = nr at *
  generalize seE l ar = se at *
  generalize fiI l nm = fI at *
  generalize fiE l nm = fE at *
  generalize findI l nm = k at *
  rcases fc with ⟨h1, rfl, rfl⟩ | ⟨h1, rfl, rfl⟩
  all_goals
    first | (have d1 : decide (k < 0) = true := decide_eq_true h1) | (have d1 : decide (fI < 0) = false := decide_eq_false (by omega))
    first | (have d2 : decide (0 ≤ k) = false := decide_eq_false (by omega)) | (have d2 : decide (0 ≤ fI) = true := decide_eq_true h1)
    go_enter Tryd.func5, Tryd.ntmps5
    go_wp2_with fail
    refine AW.out.mono ?_
    rintro e w1 ⟨rfl, hb⟩
    replace X := X.to hb
    replace HL := hide (HL.out.below hb)
    replace HA := hide (HA.out.below hb)
    clear hb
    go_wp2_with fail
    refine (LG.out _ HL.out).mono ?_
    rintro e w2 ⟨rfl, hb⟩
    replace X := X.to hb
    replace HL := hide (HL.out.below hb)
    replace HA := hide (HA.out.below hb)
    clear hb
    go_wp2_with fail
    refine (FI.out _ HL.out).mono ?_
    rintro e w3 ⟨rfl, hb⟩
    replace X := X.to hb
    replace HL := hide (HL.out.below hb)
    replace HA := hide (HA.out.below hb)
    clear hb
    go_wp2_with fail
    refine (SE.out _ HL.out HA.out).mono ?_
    rintro e w4 ⟨rfl, hb⟩
    replace X := X.to hb
    replace HL := hide (HL.out.below hb)
    replace HA := hide (HA.out.below hb)
    clear hb
    go_wp2_with fail
    refine (RV.out _ HL.out).mono ?_
    rintro e w5 ⟨rfl, hb⟩
    replace X := X.to hb
    replace HL := hide (HL.out.below hb)
    replace HA := hide (HA.out.below hb)
    clear hb
    go_wp2_with fail
    refine (RF.out _ HL.out).mono ?_
    rintro e w6 ⟨rfl, rfl⟩
    go_wp2_with fail
    refine (RS.out _ HL.out HA.out).mono ?_
    rintro e w6 ⟨rfl, hb⟩
    replace X := X.to hb
    replace HL := hide (HL.out.below hb)
    clear hb
    go_wp2_with fail
    refine (V.out _ HL.out).mono ?_
    rintro e w7 ⟨rfl, hb⟩
    replace X := X.to hb
    clear hb
    go_wp2
    go_ret
    exact ⟨rfl, X.1⟩
end Go.Proofs.YtaaadejamjbcbaaDoor
