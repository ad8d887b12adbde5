/- The law LanduseBack returns true for every list, text and areas; nothing that was there is turned. -/
import Derived.Test.YtaaadejamjbcbaaDoorLuTx
import Derived.Test.YtaaadejamjbcbaaDoorClEq
import Derived.Test.YtaaadejamjbcbaaDoorSeal
import Derived.Test.YtaaadejamjbcbaaDoorAwk15
namespace Go.Proofs.YtaaadejamjbcbaaDoor
open Go Go.RowKit

def arS (ar : List Int) : Nat → Int | 0 => 0 | k + 1 => arS ar k + ar.getD k 0
theorem se_whole (l : List Cls) (ar : List Int) : ∀ k, seY l ar k + seN l ar k = 1000 * arS ar k
  | 0 => rfl
  | k + 1 => by
    have ih := se_whole l ar k
    have e1 : seY l ar (k + 1) = seY l ar k + ar.getD k 0 * seAt l k := rfl
    have e2 : seN l ar (k + 1) = seN l ar k + ar.getD k 0 * (1000 - seAt l k) := rfl
    have e3 : arS ar (k + 1) = arS ar k + ar.getD k 0 := rfl
    rw [Int.mul_sub] at e2
    rw [e1, e2, e3]
    omega
theorem arS_bd (ar : List Int) (h : ∀ i, i < ar.length → 0 ≤ ar.getD i 0 ∧ ar.getD i 0 ≤ 1073741824) : ∀ k, k ≤ ar.length → 0 ≤ arS ar k ∧ arS ar k ≤ k * 1073741824
  | 0, _ => by simp [arS]
  | k + 1, hk => by
    have ih := arS_bd ar h k (by omega)
    have := h k (by omega)
    have e3 : arS ar (k + 1) = arS ar k + ar.getD k 0 := rfl
    rw [e3]; omega
theorem se_cases (l : List Cls) (ar : List Int) (hv : validB l = true) : (seE l ar ≠ 0 ∧ seYr l ar = 0 ∧ seNr l ar = 0) ∨
    (seE l ar = 0 ∧ ar.length = l.length ∧ (∀ i, i < ar.length → 0 ≤ ar.getD i 0 ∧ ar.getD i 0 ≤ 1073741824) ∧ (0 ≤ seYr l ar ∧ seYr l ar ≤ 17179869184000) ∧ (0 ≤ seNr l ar ∧ seNr l ar ≤ 17179869184000) ∧ seYr l ar + seNr l ar = 1000 * arS ar ar.length) := by
  by_cases hn : ar.length = l.length
  · rcases Bool.eq_false_or_eq_true (ar.any arBad) with h | h
    · obtain ⟨a, b, c⟩ := se_any hn h
      exact .inl ⟨by rw [c]; decide, a, b⟩
    · obtain ⟨a, b, c⟩ := se_ok hn h
      have h2 := any_bad.1 h
      have p := se_part (l := l) (ar := ar) hv l.length (Nat.le_refl _) (fun i hi => h2 i (by omega))
      refine .inr ⟨c, hn, h2, ?_, ?_, ?_⟩
      · rw [a]; omega
      · rw [b]; omega
      · rw [a, b, hn]; exact se_whole l ar l.length
  · obtain ⟨a, b, c⟩ := se_len hn
    exact .inl ⟨by rw [c]; decide, a, b⟩
theorem fi_self {l : List Cls} (hv : validB l = true) {k : Nat} (hk : k < l.length) : fiI l l[k].nm = k ∧ fiE l l[k].nm = 0 := by
  have h := ((of_validB hv).2.2 k hk).2
  have n : ¬ (k : Int) < 0 := by omega
  exact ⟨by simp [fiI, hv, h, n], by simp [fiE, hv, h, n]⟩
theorem prsF_text {l : List Cls} (hv : validB l = true) : prsF (txL l) = (l, 0, 0) := by
  have h1 := txL_len (valid_right hv)
  have h2 := (of_validB hv).2.1
  unfold prsF
  rw [if_neg (by omega)]
  exact read_text hv
theorem prsF_back {s : List UInt8} (h : (prsF s).2.2 = 0) : txL (prsF s).1 = s ∧ validB (prsF s).1 = true := by
  unfold prsF at h ⊢
  split at h
  · exact absurd h (by decide)
  · rename_i hn
    rw [if_neg hn]
    have e := (prs_err (pts 10 s) 0 []).1 h
    exact text_read (x := (prs (pts 10 s) 0 []).1) (Prod.ext rfl (Prod.ext e h))
set_option maxRecDepth 100000 in
set_option maxHeartbeats 8000000 in
theorem back_law (l : List Cls) (A : Option Addr) (cap : Nat) (s : ByteArray) (ar : List Int) (B : Option Addr) (cap2 : Nat) (w : World) (hl : ClsSl w A l) (hs : s.size ≤ maxLen) (ha : IntSl w B ar) (ht : TxtW w) :
    Calls Tryd.prog 7 #[.slice A l.length cap, .string s, .slice B ar.length cap2] w (RetV (.bool true) w) := by
  have hlen : l.length ≤ 9223372036854775807 := hl.1.1
  have hal : ar.length ≤ 9223372036854775807 := ha.1.1
  unfold maxLen at hs
  have hs2 : s.size ≤ 9223372036854775807 := by omega
  have AW := hide (awake_any w ht)
  have X := Own.start w
  have HL := hide hl
  have HA := hide ha
  have HT := hide ht
  have LG := hide (fun W h => long_any l A cap W h)
  have TX := hide (fun W h h2 => lutext_any l A cap W h h2)
  have V := hide (fun W h => luvalid_any l A cap W h)
  have SE := hide (fun W h h2 => sealed_any l A cap ar B cap2 W h h2)
  unfold TxPost at TX
  unfold SePost at SE
  have TG := hide (fun hv => tx_good (l := l) hv)
  have TB := hide (fun hv => tx_bad (l := l) hv)
  have SG := hide (fun hv => sl_good (l := l) (ar := ar) hv)
  have hsl : s.data.toList.length = s.size := by simp
  clear hl ht ha
  have ways : (longB l = true) ∨ (longB l = false ∧ decide ((2000 : Int) < (s.size : Int)) = true) ∨
      (longB l = false ∧ decide ((2000 : Int) < (s.size : Int)) = false ∧ decide ((30 : Int) < (ar.length : Int)) = true) ∨
      (longB l = false ∧ decide ((2000 : Int) < (s.size : Int)) = false ∧ decide ((30 : Int) < (ar.length : Int)) = false) := by
    cases longB l <;> cases decide ((2000 : Int) < (s.size : Int)) <;> cases decide ((30 : Int) < (ar.length : Int)) <;> simp
  rcases ways with q1 | ⟨q1, q2⟩ | ⟨q1, q2, q3⟩ | ⟨q1, q2, q3⟩
  iterate 3
    · rw [q1] at LG
      clear q1
      go_enter Tryd.func7, Tryd.ntmps7
      go_wp2_with fail
      refine AW.out.mono ?_
      rintro e w1 ⟨rfl, hb⟩
      replace X := X.to hb
      replace HL := hide (HL.out.below hb)
      clear hb
      go_wp2_with fail
      refine (LG.out _ HL.out).mono ?_
      rintro e w2 ⟨rfl, hb⟩
      replace X := X.to hb
      clear hb
      go_wp2
      go_ret
      exact ⟨rfl, X.1⟩
  have sb : s.size ≤ 2000 := by have := of_decide_eq_false q2; omega
  have ab : ar.length ≤ 30 := by have := of_decide_eq_false q3; omega
  have PR := hide (fun W h => parse_any s.data.toList W (by omega) h)
  have PB := hide (fun h => prsF_back (s := s.data.toList) h)
  have EQ := hide (fun W A B c c' h h' => equalC_any l A B c c' W h h')
  unfold PrsPost at PR
  rw [strV_data] at PR
  rw [q1] at LG
  clear q1 hsl
  have TP := hide (fun W A c h h2 => lutext_any (prsF s.data.toList).1 A c W h h2)
  have VP := hide (fun W A c h => luvalid_any (prsF s.data.toList).1 A c W h)
  have TPG := hide (fun hv => tx_good (l := (prsF s.data.toList).1) hv)
  unfold TxPost at TP
  generalize (prsF s.data.toList).1 = pl at *
  generalize (prsF s.data.toList).2.1 = ln at *
  generalize (prsF s.data.toList).2.2 = er at *
  generalize colI ln = cl at *
  have ways2 : er = 0 ∨ ((er == 0) = false ∧ (er != 0) = true) := by
    by_cases h : er = 0
    · exact .inl h
    · exact .inr ⟨by simpa using h, by simpa using h⟩
  -- WALKS
  rcases Bool.eq_false_or_eq_true (validB l) with hv | hv
  case inr =>
    obtain ⟨t1, t2⟩ := TB.out hv
    rw [t1, t2] at TX
    rw [hv] at V
    clear t1 t2 hv TG TB SG SE HA
    rcases ways2 with rfl | ⟨x1, x2⟩
    · obtain ⟨p1, p2⟩ := PB.out rfl
      obtain ⟨p3, p4⟩ := TPG.out p2
      rw [p3, p4, p1, strV_data] at TP
      rw [p2] at VP
      clear p1 p2 p3 p4 PB TPG
      go_enter Tryd.func7, Tryd.ntmps7
      go_wp2_with fail
      refine (AW.out).mono ?_
      rintro e w1 ⟨rfl, hb⟩
      replace X := X.to hb
      replace HL := hide (HL.out.below hb)
      clear hb
      go_wp2_with fail
      refine (LG.out _ HL.out).mono ?_
      rintro e w1 ⟨rfl, hb⟩
      replace X := X.to hb
      replace HL := hide (HL.out.below hb)
      clear hb
      go_wp2_with fail
      refine (PR.out _ (HT.out.below X.1)).mono ?_
      rintro e w1 ⟨hb, A1, c1, rfl, h1, _⟩
      replace X := (X.to hb).alloc #[.int .i64 ln, .int .i64 cl] 47
      replace HL := hide (HL.out.below (hb.alloc hb.size (.cells #[.int .i64 ln, .int .i64 cl] 47)))
      have H1 := hide (h1.below ((Below.refl _ w1).alloc (Nat.le_refl _) (.cells #[.int .i64 ln, .int .i64 cl] 47)))
      clear hb h1
      go_wp2_with fail
      refine (TP.out _ A1 c1 H1.out (HT.out.below X.1)).mono ?_
      rintro e w1 ⟨rfl, hb⟩
      replace X := X.to hb
      replace HL := hide (HL.out.below hb)
      replace H1 := hide (H1.out.below hb)
      clear hb
      go_wp2_with fail
      refine (VP.out _ A1 c1 H1.out).mono ?_
      rintro e w1 ⟨rfl, hb⟩
      replace X := X.to hb
      replace HL := hide (HL.out.below hb)
      clear hb
      go_wp2_with fail
      refine (TX.out _ HL.out (HT.out.below X.1)).mono ?_
      rintro e w1 ⟨rfl, hb⟩
      replace X := X.to hb
      replace HL := hide (HL.out.below hb)
      clear hb
      go_wp2_with fail
      refine (V.out _ HL.out).mono ?_
      rintro e w1 ⟨rfl, hb⟩
      replace X := X.to hb
      replace HL := hide (HL.out.below hb)
      clear hb
      go_wp2
      go_ret
      exact ⟨rfl, X.1⟩
    · clear PB TPG TP VP
      go_enter Tryd.func7, Tryd.ntmps7
      go_wp2_with fail
      refine (AW.out).mono ?_
      rintro e w1 ⟨rfl, hb⟩
      replace X := X.to hb
      replace HL := hide (HL.out.below hb)
      clear hb
      go_wp2_with fail
      refine (LG.out _ HL.out).mono ?_
      rintro e w1 ⟨rfl, hb⟩
      replace X := X.to hb
      replace HL := hide (HL.out.below hb)
      clear hb
      go_wp2_with fail
      refine (PR.out _ (HT.out.below X.1)).mono ?_
      rintro e w1 ⟨hb, A1, c1, rfl, h1, _⟩
      replace X := (X.to hb).alloc #[.int .i64 ln, .int .i64 cl] 47
      replace HL := hide (HL.out.below (hb.alloc hb.size (.cells #[.int .i64 ln, .int .i64 cl] 47)))
      have H1 := hide (h1.below ((Below.refl _ w1).alloc (Nat.le_refl _) (.cells #[.int .i64 ln, .int .i64 cl] 47)))
      clear hb h1
      go_wp2_with fail
      refine (TX.out _ HL.out (HT.out.below X.1)).mono ?_
      rintro e w1 ⟨rfl, hb⟩
      replace X := X.to hb
      replace HL := hide (HL.out.below hb)
      clear hb
      go_wp2_with fail
      refine (V.out _ HL.out).mono ?_
      rintro e w1 ⟨rfl, hb⟩
      replace X := X.to hb
      replace HL := hide (HL.out.below hb)
      clear hb
      go_wp2
      go_ret
      exact ⟨rfl, X.1⟩
  obtain ⟨t1, t2⟩ := TG.out hv
  rw [t1, t2] at TX
  obtain ⟨s1, s2, s3⟩ := SG.out hv
  rw [s1, s2, s3] at SE
  have PL := hide (fun W h => parse_any (txL l) W (by have := txL_len (valid_right hv); have := (of_validB hv).2.1; omega) h)
  unfold PrsPost at PL
  rw [prsF_text hv] at PL
  simp only [show colI 0 = 0 from rfl] at PL
  have FD := hide (fun W (k : Nat) (hk : k < l.length) h => by have := find_any l A cap l[k].nm W h; rw [(fi_self hv hk).1, (fi_self hv hk).2] at this; exact this)
  have sc := se_cases l ar hv
  have HV := hide hv
  clear t1 t2 hv TG TB SG s1 s2 s3
  generalize txL l = tx at *
  generalize seYr l ar = sy at *
  generalize seNr l ar = sn at *
  generalize seE l ar = g at *
  rcases sc with ⟨g1, rfl, rfl⟩ | ⟨rfl, hn, hb1, hy, hz, hyz⟩
  · have g2 : (g == 0) = false := by simpa using g1
    have g3 : (g != 0) = true := by simpa using g1
    clear g1
    rcases ways2 with rfl | ⟨x1, x2⟩
    · obtain ⟨p1, p2⟩ := PB.out rfl
      obtain ⟨p3, p4⟩ := TPG.out p2
      rw [p3, p4, p1, strV_data] at TP
      rw [p2] at VP
      clear p1 p2 p3 p4 PB TPG
      go_enter Tryd.func7, Tryd.ntmps7
      go_wp2_with fail
      refine (AW.out).mono ?_
      rintro e w1 ⟨rfl, hb⟩
      replace X := X.to hb
      replace HL := hide (HL.out.below hb)
      replace HA := hide (HA.out.below hb)
      clear hb
      go_wp2_with fail
      refine (LG.out _ HL.out).mono ?_
      rintro e w1 ⟨rfl, hb⟩
      replace X := X.to hb
      replace HL := hide (HL.out.below hb)
      replace HA := hide (HA.out.below hb)
      clear hb
      go_wp2_with fail
      refine (PR.out _ (HT.out.below X.1)).mono ?_
      rintro e w1 ⟨hb, A1, c1, rfl, h1, _⟩
      replace X := (X.to hb).alloc #[.int .i64 ln, .int .i64 cl] 47
      replace HL := hide (HL.out.below (hb.alloc hb.size (.cells #[.int .i64 ln, .int .i64 cl] 47)))
      replace HA := hide (HA.out.below (hb.alloc hb.size (.cells #[.int .i64 ln, .int .i64 cl] 47)))
      have H1 := hide (h1.below ((Below.refl _ w1).alloc (Nat.le_refl _) (.cells #[.int .i64 ln, .int .i64 cl] 47)))
      clear hb h1
      go_wp2_with fail
      refine (TP.out _ A1 c1 H1.out (HT.out.below X.1)).mono ?_
      rintro e w1 ⟨rfl, hb⟩
      replace X := X.to hb
      replace HL := hide (HL.out.below hb)
      replace HA := hide (HA.out.below hb)
      replace H1 := hide (H1.out.below hb)
      clear hb
      go_wp2_with fail
      refine (VP.out _ A1 c1 H1.out).mono ?_
      rintro e w1 ⟨rfl, hb⟩
      replace X := X.to hb
      replace HL := hide (HL.out.below hb)
      replace HA := hide (HA.out.below hb)
      clear hb
      go_wp2_with fail
      refine (TX.out _ HL.out (HT.out.below X.1)).mono ?_
      rintro e w1 ⟨rfl, hb⟩
      replace X := X.to hb
      replace HL := hide (HL.out.below hb)
      replace HA := hide (HA.out.below hb)
      clear hb
      go_wp2_with fail
      refine (PL.out _ (HT.out.below X.1)).mono ?_
      rintro e w4 ⟨hb, A2, c2, rfl, h2, _⟩
      replace X := (X.to hb).alloc #[.int .i64 0, .int .i64 0] 47
      replace HL := hide (HL.out.below (hb.alloc hb.size (.cells #[.int .i64 0, .int .i64 0] 47)))
      replace HA := hide (HA.out.below (hb.alloc hb.size (.cells #[.int .i64 0, .int .i64 0] 47)))
      have H2 := hide (h2.below ((Below.refl _ w4).alloc (Nat.le_refl _) (.cells #[.int .i64 0, .int .i64 0] 47)))
      clear hb h2
      have hr := X.r1
      go_wp2_with fail
      refine (EQ.out _ A2 A c2 cap H2.out HL.out).mono ?_
      rintro e w1 ⟨rfl, hb⟩
      replace X := X.to hb
      replace HL := hide (HL.out.below hb)
      replace HA := hide (HA.out.below hb)
      clear hb
      clear hr
      have Y0 := hide X.1
      have HS := hide (And.intro HL.out HA.out)
      go_wp2
      go_loopw [101] (fun v wr => ∃ k : Nat, k ≤ l.length ∧ v = .int .i64 k ∧ Hid (Below w.heap.size w wr) ∧ Hid (ClsSl wr A l) ∧ Hid (IntSl wr B ar)) (fun v _ => l.length - (intOf v).toNat)
      case atStart => exact ⟨0, Nat.zero_le _, rfl, Y0, HL, HA⟩
      case round =>
        obtain ⟨k, hk, rfl, HB, HL, HA⟩ := hrel
        by_cases hlt : k < l.length
        · obtain ⟨b, off, e, hbl, hat⟩ := HL.out.2 (by omega)
          subst e
          obtain ⟨c0, c1, c2, c3, c4⟩ := hat k hlt
          have FK := hide (fun W h => FD.out W k hlt h)
          have Z := (show Own w wr [] from ⟨HB.out, fun _ h => by cases h⟩).alloc #[.string l[k].nm, .int .i64 l[k].se, .int .i64 l[k].we, .int .i64 l[k].ro, .int .i64 l[k].dr] 54
          have bz := (Below.refl _ wr).alloc (Nat.le_refl _) (.cells #[.string l[k].nm, .int .i64 l[k].se, .int .i64 l[k].we, .int .i64 l[k].ro, .int .i64 l[k].dr] 54)
          have HL2 := hide (HL.out.below bz)
          have HA2 := hide (HA.out.below bz)
          have ZH := hide Z
          clear Z bz hat
          generalize l[k] = c at *
          go_wp2_with fail
          refine (FK.out _ HL2.out).mono ?_
          rintro e w6 ⟨rfl, hb⟩
          have Z2 := hide (ZH.out.to hb).1
          have HL3 := hide (HL2.out.below hb)
          have HA3 := hide (HA2.out.below hb)
          clear hb c0 c1 c2 c3 c4
          go_wp2
          go_roundw
          case rel => exact ⟨k + 1, by omega, by go_num, Z2, HL3, HA3⟩
          case measure => simp [intOf]; omega
        · have X := (show Own w wr [] from ⟨HB.out, fun _ h => by cases h⟩)
          have _t := HS
          go_wp2_with fail
          refine (SE.out _ HL.out HA.out).mono ?_
          rintro e w7 ⟨rfl, hb⟩
          replace X := X.to hb
          have HA4 := hide (HA.out.below hb)
          clear hb
          go_wp2
          go_ret
          exact ⟨rfl, X.1⟩
    · clear PB TPG TP VP
      go_enter Tryd.func7, Tryd.ntmps7
      go_wp2_with fail
      refine (AW.out).mono ?_
      rintro e w1 ⟨rfl, hb⟩
      replace X := X.to hb
      replace HL := hide (HL.out.below hb)
      replace HA := hide (HA.out.below hb)
      clear hb
      go_wp2_with fail
      refine (LG.out _ HL.out).mono ?_
      rintro e w1 ⟨rfl, hb⟩
      replace X := X.to hb
      replace HL := hide (HL.out.below hb)
      replace HA := hide (HA.out.below hb)
      clear hb
      go_wp2_with fail
      refine (PR.out _ (HT.out.below X.1)).mono ?_
      rintro e w1 ⟨hb, A1, c1, rfl, h1, _⟩
      replace X := (X.to hb).alloc #[.int .i64 ln, .int .i64 cl] 47
      replace HL := hide (HL.out.below (hb.alloc hb.size (.cells #[.int .i64 ln, .int .i64 cl] 47)))
      replace HA := hide (HA.out.below (hb.alloc hb.size (.cells #[.int .i64 ln, .int .i64 cl] 47)))
      have H1 := hide (h1.below ((Below.refl _ w1).alloc (Nat.le_refl _) (.cells #[.int .i64 ln, .int .i64 cl] 47)))
      clear hb h1
      go_wp2_with fail
      refine (TX.out _ HL.out (HT.out.below X.1)).mono ?_
      rintro e w1 ⟨rfl, hb⟩
      replace X := X.to hb
      replace HL := hide (HL.out.below hb)
      replace HA := hide (HA.out.below hb)
      clear hb
      go_wp2_with fail
      refine (PL.out _ (HT.out.below X.1)).mono ?_
      rintro e w4 ⟨hb, A2, c2, rfl, h2, _⟩
      replace X := (X.to hb).alloc #[.int .i64 0, .int .i64 0] 47
      replace HL := hide (HL.out.below (hb.alloc hb.size (.cells #[.int .i64 0, .int .i64 0] 47)))
      replace HA := hide (HA.out.below (hb.alloc hb.size (.cells #[.int .i64 0, .int .i64 0] 47)))
      have H2 := hide (h2.below ((Below.refl _ w4).alloc (Nat.le_refl _) (.cells #[.int .i64 0, .int .i64 0] 47)))
      clear hb h2
      have hr := X.r1
      go_wp2_with fail
      refine (EQ.out _ A2 A c2 cap H2.out HL.out).mono ?_
      rintro e w1 ⟨rfl, hb⟩
      replace X := X.to hb
      replace HL := hide (HL.out.below hb)
      replace HA := hide (HA.out.below hb)
      clear hb
      clear hr
      have Y0 := hide X.1
      have HS := hide (And.intro HL.out HA.out)
      go_wp2
      go_loopw [101] (fun v wr => ∃ k : Nat, k ≤ l.length ∧ v = .int .i64 k ∧ Hid (Below w.heap.size w wr) ∧ Hid (ClsSl wr A l) ∧ Hid (IntSl wr B ar)) (fun v _ => l.length - (intOf v).toNat)
      case atStart => exact ⟨0, Nat.zero_le _, rfl, Y0, HL, HA⟩
      case round =>
        obtain ⟨k, hk, rfl, HB, HL, HA⟩ := hrel
        by_cases hlt : k < l.length
        · obtain ⟨b, off, e, hbl, hat⟩ := HL.out.2 (by omega)
          subst e
          obtain ⟨c0, c1, c2, c3, c4⟩ := hat k hlt
          have FK := hide (fun W h => FD.out W k hlt h)
          have Z := (show Own w wr [] from ⟨HB.out, fun _ h => by cases h⟩).alloc #[.string l[k].nm, .int .i64 l[k].se, .int .i64 l[k].we, .int .i64 l[k].ro, .int .i64 l[k].dr] 54
          have bz := (Below.refl _ wr).alloc (Nat.le_refl _) (.cells #[.string l[k].nm, .int .i64 l[k].se, .int .i64 l[k].we, .int .i64 l[k].ro, .int .i64 l[k].dr] 54)
          have HL2 := hide (HL.out.below bz)
          have HA2 := hide (HA.out.below bz)
          have ZH := hide Z
          clear Z bz hat
          generalize l[k] = c at *
          go_wp2_with fail
          refine (FK.out _ HL2.out).mono ?_
          rintro e w6 ⟨rfl, hb⟩
          have Z2 := hide (ZH.out.to hb).1
          have HL3 := hide (HL2.out.below hb)
          have HA3 := hide (HA2.out.below hb)
          clear hb c0 c1 c2 c3 c4
          go_wp2
          go_roundw
          case rel => exact ⟨k + 1, by omega, by go_num, Z2, HL3, HA3⟩
          case measure => simp [intOf]; omega
        · have X := (show Own w wr [] from ⟨HB.out, fun _ h => by cases h⟩)
          have _t := HS
          go_wp2_with fail
          refine (SE.out _ HL.out HA.out).mono ?_
          rintro e w7 ⟨rfl, hb⟩
          replace X := X.to hb
          have HA4 := hide (HA.out.below hb)
          clear hb
          go_wp2
          go_ret
          exact ⟨rfl, X.1⟩
  · have AB := hide (arS_bd ar hb1)
    have HYZ := hide hyz
    have HN := hide hn
    clear hyz hn hb1
    rcases ways2 with rfl | ⟨x1, x2⟩
    · obtain ⟨p1, p2⟩ := PB.out rfl
      obtain ⟨p3, p4⟩ := TPG.out p2
      rw [p3, p4, p1, strV_data] at TP
      rw [p2] at VP
      clear p1 p2 p3 p4 PB TPG
      go_enter Tryd.func7, Tryd.ntmps7
      go_wp2_with fail
      refine (AW.out).mono ?_
      rintro e w1 ⟨rfl, hb⟩
      replace X := X.to hb
      replace HL := hide (HL.out.below hb)
      replace HA := hide (HA.out.below hb)
      clear hb
      go_wp2_with fail
      refine (LG.out _ HL.out).mono ?_
      rintro e w1 ⟨rfl, hb⟩
      replace X := X.to hb
      replace HL := hide (HL.out.below hb)
      replace HA := hide (HA.out.below hb)
      clear hb
      go_wp2_with fail
      refine (PR.out _ (HT.out.below X.1)).mono ?_
      rintro e w1 ⟨hb, A1, c1, rfl, h1, _⟩
      replace X := (X.to hb).alloc #[.int .i64 ln, .int .i64 cl] 47
      replace HL := hide (HL.out.below (hb.alloc hb.size (.cells #[.int .i64 ln, .int .i64 cl] 47)))
      replace HA := hide (HA.out.below (hb.alloc hb.size (.cells #[.int .i64 ln, .int .i64 cl] 47)))
      have H1 := hide (h1.below ((Below.refl _ w1).alloc (Nat.le_refl _) (.cells #[.int .i64 ln, .int .i64 cl] 47)))
      clear hb h1
      go_wp2_with fail
      refine (TP.out _ A1 c1 H1.out (HT.out.below X.1)).mono ?_
      rintro e w1 ⟨rfl, hb⟩
      replace X := X.to hb
      replace HL := hide (HL.out.below hb)
      replace HA := hide (HA.out.below hb)
      replace H1 := hide (H1.out.below hb)
      clear hb
      go_wp2_with fail
      refine (VP.out _ A1 c1 H1.out).mono ?_
      rintro e w1 ⟨rfl, hb⟩
      replace X := X.to hb
      replace HL := hide (HL.out.below hb)
      replace HA := hide (HA.out.below hb)
      clear hb
      go_wp2_with fail
      refine (TX.out _ HL.out (HT.out.below X.1)).mono ?_
      rintro e w1 ⟨rfl, hb⟩
      replace X := X.to hb
      replace HL := hide (HL.out.below hb)
      replace HA := hide (HA.out.below hb)
      clear hb
      go_wp2_with fail
      refine (PL.out _ (HT.out.below X.1)).mono ?_
      rintro e w4 ⟨hb, A2, c2, rfl, h2, _⟩
      replace X := (X.to hb).alloc #[.int .i64 0, .int .i64 0] 47
      replace HL := hide (HL.out.below (hb.alloc hb.size (.cells #[.int .i64 0, .int .i64 0] 47)))
      replace HA := hide (HA.out.below (hb.alloc hb.size (.cells #[.int .i64 0, .int .i64 0] 47)))
      have H2 := hide (h2.below ((Below.refl _ w4).alloc (Nat.le_refl _) (.cells #[.int .i64 0, .int .i64 0] 47)))
      clear hb h2
      have hr := X.r1
      go_wp2_with fail
      refine (EQ.out _ A2 A c2 cap H2.out HL.out).mono ?_
      rintro e w1 ⟨rfl, hb⟩
      replace X := X.to hb
      replace HL := hide (HL.out.below hb)
      replace HA := hide (HA.out.below hb)
      clear hb
      clear hr
      have Y0 := hide X.1
      have HS := hide (And.intro HL.out HA.out)
      go_wp2
      go_loopw [101] (fun v wr => ∃ k : Nat, k ≤ l.length ∧ v = .int .i64 k ∧ Hid (Below w.heap.size w wr) ∧ Hid (ClsSl wr A l) ∧ Hid (IntSl wr B ar)) (fun v _ => l.length - (intOf v).toNat)
      case atStart => exact ⟨0, Nat.zero_le _, rfl, Y0, HL, HA⟩
      case round =>
        obtain ⟨k, hk, rfl, HB, HL, HA⟩ := hrel
        by_cases hlt : k < l.length
        · obtain ⟨b, off, e, hbl, hat⟩ := HL.out.2 (by omega)
          subst e
          obtain ⟨c0, c1, c2, c3, c4⟩ := hat k hlt
          have FK := hide (fun W h => FD.out W k hlt h)
          have Z := (show Own w wr [] from ⟨HB.out, fun _ h => by cases h⟩).alloc #[.string l[k].nm, .int .i64 l[k].se, .int .i64 l[k].we, .int .i64 l[k].ro, .int .i64 l[k].dr] 54
          have bz := (Below.refl _ wr).alloc (Nat.le_refl _) (.cells #[.string l[k].nm, .int .i64 l[k].se, .int .i64 l[k].we, .int .i64 l[k].ro, .int .i64 l[k].dr] 54)
          have HL2 := hide (HL.out.below bz)
          have HA2 := hide (HA.out.below bz)
          have ZH := hide Z
          clear Z bz hat
          generalize l[k] = c at *
          go_wp2_with fail
          refine (FK.out _ HL2.out).mono ?_
          rintro e w6 ⟨rfl, hb⟩
          have Z2 := hide (ZH.out.to hb).1
          have HL3 := hide (HL2.out.below hb)
          have HA3 := hide (HA2.out.below hb)
          clear hb c0 c1 c2 c3 c4
          go_wp2
          go_roundw
          case rel => exact ⟨k + 1, by omega, by go_num, Z2, HL3, HA3⟩
          case measure => simp [intOf]; omega
        · have X := (show Own w wr [] from ⟨HB.out, fun _ h => by cases h⟩)
          have _t := HS
          go_wp2_with fail
          refine (SE.out _ HL.out HA.out).mono ?_
          rintro e w7 ⟨rfl, hb⟩
          replace X := X.to hb
          have HA4 := hide (HA.out.below hb)
          clear hb
          have XB := hide X.1
          clear X
          go_wp2
          go_loop [24, 138] (fun v24 v138 => ∃ k : Nat, k ≤ ar.length ∧ v138 = .int .i64 k ∧ v24 = .int .i64 (arS ar k)) (fun _ v138 => ar.length - (intOf v138).toNat)
          case atStart => exact ⟨0, Nat.zero_le _, rfl, rfl⟩
          case round =>
            obtain ⟨k2, hk2, rfl, rfl⟩ := hrel
            by_cases hlt2 : k2 < ar.length
            · obtain ⟨b, off, e, hbl, hat⟩ := HA4.out.2 (by omega)
              subst e
              have d0 := hat k2 hlt2
              rw [getD_get hlt2] at d0
              have b1 := AB.out k2 hk2
              have b2 := AB.out (k2 + 1) (by omega)
              have e3 : Hid (arS ar (k2 + 1) = arS ar k2 + ar.getD k2 0) := hide rfl
              rw [e3.out] at b2
              clear hat
              generalize arS ar k2 = a at *
              generalize ar.getD k2 0 = x at *
              go_wp2
              go_round
              case rel => exact ⟨k2 + 1, by omega, by go_num, by rw [e3.out]⟩
              case measure => simp [intOf]; omega
            · obtain rfl : k2 = ar.length := by omega
              have b1 := AB.out ar.length (by omega)
              generalize arS ar ar.length = a at *
              have hyz := HYZ.out
              have w1' : IntKind.i64.wrap (sy + sn) = 1000 * a := by rw [hyz]; exact IntWalk.i64_in _ (by omega)
              have w2' : IntKind.i64.wrap (1000 * a) = 1000 * a := IntWalk.i64_in _ (by omega)
              have y0 : decide (0 ≤ sy) = true := decide_eq_true hy.1
              have z0 : decide (0 ≤ sn) = true := decide_eq_true hz.1
              have eq0 : ((sy + sn) == 1000 * a) = true := by simpa using hyz
              clear hyz w1' w2'
              go_wp2
              go_ret
              exact ⟨ret_bool (by simp), XB.out⟩
    · clear PB TPG TP VP
      go_enter Tryd.func7, Tryd.ntmps7
      go_wp2_with fail
      refine (AW.out).mono ?_
      rintro e w1 ⟨rfl, hb⟩
      replace X := X.to hb
      replace HL := hide (HL.out.below hb)
      replace HA := hide (HA.out.below hb)
      clear hb
      go_wp2_with fail
      refine (LG.out _ HL.out).mono ?_
      rintro e w1 ⟨rfl, hb⟩
      replace X := X.to hb
      replace HL := hide (HL.out.below hb)
      replace HA := hide (HA.out.below hb)
      clear hb
      go_wp2_with fail
      refine (PR.out _ (HT.out.below X.1)).mono ?_
      rintro e w1 ⟨hb, A1, c1, rfl, h1, _⟩
      replace X := (X.to hb).alloc #[.int .i64 ln, .int .i64 cl] 47
      replace HL := hide (HL.out.below (hb.alloc hb.size (.cells #[.int .i64 ln, .int .i64 cl] 47)))
      replace HA := hide (HA.out.below (hb.alloc hb.size (.cells #[.int .i64 ln, .int .i64 cl] 47)))
      have H1 := hide (h1.below ((Below.refl _ w1).alloc (Nat.le_refl _) (.cells #[.int .i64 ln, .int .i64 cl] 47)))
      clear hb h1
      go_wp2_with fail
      refine (TX.out _ HL.out (HT.out.below X.1)).mono ?_
      rintro e w1 ⟨rfl, hb⟩
      replace X := X.to hb
      replace HL := hide (HL.out.below hb)
      replace HA := hide (HA.out.below hb)
      clear hb
      go_wp2_with fail
      refine (PL.out _ (HT.out.below X.1)).mono ?_
      rintro e w4 ⟨hb, A2, c2, rfl, h2, _⟩
      replace X := (X.to hb).alloc #[.int .i64 0, .int .i64 0] 47
      replace HL := hide (HL.out.below (hb.alloc hb.size (.cells #[.int .i64 0, .int .i64 0] 47)))
      replace HA := hide (HA.out.below (hb.alloc hb.size (.cells #[.int .i64 0, .int .i64 0] 47)))
      have H2 := hide (h2.below ((Below.refl _ w4).alloc (Nat.le_refl _) (.cells #[.int .i64 0, .int .i64 0] 47)))
      clear hb h2
      have hr := X.r1
      go_wp2_with fail
      refine (EQ.out _ A2 A c2 cap H2.out HL.out).mono ?_
      rintro e w1 ⟨rfl, hb⟩
      replace X := X.to hb
      replace HL := hide (HL.out.below hb)
      replace HA := hide (HA.out.below hb)
      clear hb
      clear hr
      have Y0 := hide X.1
      have HS := hide (And.intro HL.out HA.out)
      go_wp2
      go_loopw [101] (fun v wr => ∃ k : Nat, k ≤ l.length ∧ v = .int .i64 k ∧ Hid (Below w.heap.size w wr) ∧ Hid (ClsSl wr A l) ∧ Hid (IntSl wr B ar)) (fun v _ => l.length - (intOf v).toNat)
      case atStart => exact ⟨0, Nat.zero_le _, rfl, Y0, HL, HA⟩
      case round =>
        obtain ⟨k, hk, rfl, HB, HL, HA⟩ := hrel
        by_cases hlt : k < l.length
        · obtain ⟨b, off, e, hbl, hat⟩ := HL.out.2 (by omega)
          subst e
          obtain ⟨c0, c1, c2, c3, c4⟩ := hat k hlt
          have FK := hide (fun W h => FD.out W k hlt h)
          have Z := (show Own w wr [] from ⟨HB.out, fun _ h => by cases h⟩).alloc #[.string l[k].nm, .int .i64 l[k].se, .int .i64 l[k].we, .int .i64 l[k].ro, .int .i64 l[k].dr] 54
          have bz := (Below.refl _ wr).alloc (Nat.le_refl _) (.cells #[.string l[k].nm, .int .i64 l[k].se, .int .i64 l[k].we, .int .i64 l[k].ro, .int .i64 l[k].dr] 54)
          have HL2 := hide (HL.out.below bz)
          have HA2 := hide (HA.out.below bz)
          have ZH := hide Z
          clear Z bz hat
          generalize l[k] = c at *
          go_wp2_with fail
          refine (FK.out _ HL2.out).mono ?_
          rintro e w6 ⟨rfl, hb⟩
          have Z2 := hide (ZH.out.to hb).1
          have HL3 := hide (HL2.out.below hb)
          have HA3 := hide (HA2.out.below hb)
          clear hb c0 c1 c2 c3 c4
          go_wp2
          go_roundw
          case rel => exact ⟨k + 1, by omega, by go_num, Z2, HL3, HA3⟩
          case measure => simp [intOf]; omega
        · have X := (show Own w wr [] from ⟨HB.out, fun _ h => by cases h⟩)
          have _t := HS
          go_wp2_with fail
          refine (SE.out _ HL.out HA.out).mono ?_
          rintro e w7 ⟨rfl, hb⟩
          replace X := X.to hb
          have HA4 := hide (HA.out.below hb)
          clear hb
          have XB := hide X.1
          clear X
          go_wp2
          go_loop [24, 138] (fun v24 v138 => ∃ k : Nat, k ≤ ar.length ∧ v138 = .int .i64 k ∧ v24 = .int .i64 (arS ar k)) (fun _ v138 => ar.length - (intOf v138).toNat)
          case atStart => exact ⟨0, Nat.zero_le _, rfl, rfl⟩
          case round =>
            obtain ⟨k2, hk2, rfl, rfl⟩ := hrel
            by_cases hlt2 : k2 < ar.length
            · obtain ⟨b, off, e, hbl, hat⟩ := HA4.out.2 (by omega)
              subst e
              have d0 := hat k2 hlt2
              rw [getD_get hlt2] at d0
              have b1 := AB.out k2 hk2
              have b2 := AB.out (k2 + 1) (by omega)
              have e3 : Hid (arS ar (k2 + 1) = arS ar k2 + ar.getD k2 0) := hide rfl
              rw [e3.out] at b2
              clear hat
              generalize arS ar k2 = a at *
              generalize ar.getD k2 0 = x at *
              go_wp2
              go_round
              case rel => exact ⟨k2 + 1, by omega, by go_num, by rw [e3.out]⟩
              case measure => simp [intOf]; omega
            · obtain rfl : k2 = ar.length := by omega
              have b1 := AB.out ar.length (by omega)
              generalize arS ar ar.length = a at *
              have hyz := HYZ.out
              have w1' : IntKind.i64.wrap (sy + sn) = 1000 * a := by rw [hyz]; exact IntWalk.i64_in _ (by omega)
              have w2' : IntKind.i64.wrap (1000 * a) = 1000 * a := IntWalk.i64_in _ (by omega)
              have y0 : decide (0 ≤ sy) = true := decide_eq_true hy.1
              have z0 : decide (0 ≤ sn) = true := decide_eq_true hz.1
              have eq0 : ((sy + sn) == 1000 * a) = true := by simpa using hyz
              clear hyz w1' w2'
              go_wp2
              go_ret
              exact ⟨ret_bool (by simp), XB.out⟩
end Go.Proofs.YtaaadejamjbcbaaDoor
