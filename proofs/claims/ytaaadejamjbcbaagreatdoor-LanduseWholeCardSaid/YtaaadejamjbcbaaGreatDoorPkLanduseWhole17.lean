/- The law LanduseWhole where the areas are compared: true; nothing that was there is turned (printed by gen_whm.py). -/
import Derived.Test.YtaaadejamjbcbaaGreatDoorPkLanduseWhole16
namespace Go.Proofs.YtaaadejamjbcbaaGreatDoor
open Go Go.RowKit

theorem arV_i64W {ss : List Spt} {fs : List Fce} {inl : List Int} (hv : vM ⟨ss, fs⟩ = true) (hl : inl.length = fs.length) (i c : Nat) : i64 (arV ss fs inl inl.length i c) := by
  have sm := vM_small hv
  have := arV_bd (inl := inl) (n := fs.length) (fun k hk => (trn_bd2 (tri_in sm.1 (vM_face hv k hk).1).1 (tri_in sm.1 (vM_face hv k hk).1).2.1 (tri_in sm.1 (vM_face hv k hk).1).2.2 : -2251799813685248 ≤ twA ss (fcA fs k) ∧ twA ss (fcA fs k) ≤ 2251799813685248)) i c inl.length (by omega)
  unfold i64
  omega
set_option maxRecDepth 100000 in
set_option maxHeartbeats 8000000 in
theorem whole_ok (ss : List Spt) (fs : List Fce) (A1 A2 : Option Addr) (c1 c2 : Nat) (inl : List Int) (A : Option Addr) (cp : Nat) (fr to' : Nat) (w : World) (hm : MshSl w ⟨ss, fs⟩ ⟨A1, c1, A2, c2⟩) (hi : IntSl w A inl) (ht : TxtW w) (hlg : lgB3 ⟨ss, fs⟩ = false) (h100 : ¬ 100 < inl.length) (hv : vM ⟨ss, fs⟩ = true) (he : arE fs inl 16 = 0) (hfr : fr ≤ 255) (hto : to' ≤ 255) :
    Calls Tryz.prog 5 #[.agg #[.slice A1 ss.length c1, .slice A2 fs.length c2], .slice A inl.length cp, .int .u8 fr, .int .u8 to'] w (RetV (.bool true) w) := by
  obtain ⟨h3, _, _, nb, e11⟩ := arE_ok he
  have sm := vM_small hv
  have sm80 : fs.length ≤ 80 := by simp [lgB3] at hlg; omega
  have AW := hide (fun W h => awake_any W h)
  have X := (Own.start w).alloc #[.slice A1 ss.length c1, .slice A2 fs.length c2] 25
  have HM := hide hm
  have HT := hide ht
  have HI := hide hi
  have LG := hide (fun W => lglarge3_any ⟨ss, fs⟩ ⟨A1, c1, A2, c2⟩ W)
  rw [hlg] at LG
  unfold RetW at LG
  have CO : Hid (∀ W, MshSl W ⟨ss, fs⟩ ⟨A1, c1, A2, c2⟩ → IntSl W A inl → Lib.TabIs Tryz.prog W "internal/strconv.uint64pow10" .u64 Lib.pow10Tab → Calls Tryz.prog 12 #[.agg #[.slice A1 ss.length c1, .slice A2 fs.length c2], .slice A inl.length cp, .int .i64 16] W (ArPost ss fs inl 16 W)) := hide (fun W h hi ht => areas_ok ss fs A1 A2 c1 c2 inl A cp 16 W h hi ht hv he)
  unfold ArPost at CO
  have TO := hide (fun W h ht => mTotal_any ss fs A1 A2 c1 c2 W h ht hv)
  have TW := hide (fun k hk W h ht => mTwice_any ss fs A1 A2 c1 c2 k W h ht hv hk)
  unfold TwPost at TO TW
  have FP : Hid (∀ k, k < fs.length → 0 ≤ twA ss (fcA fs k) ∧ twA ss (fcA fs k) ≤ 2251799813685248) := hide (fun k hk => by
    have h := vM_face hv k hk
    have b : -2251799813685248 ≤ twA ss (fcA fs k) ∧ twA ss (fcA fs k) ≤ 2251799813685248 := trn_bd2 (tri_in sm.1 h.1).1 (tri_in sm.1 h.1).2.1 (tri_in sm.1 h.1).2.2
    have p : 0 < twA ss (fcA fs k) := of_decide_eq_true h.2
    exact ⟨by omega, b.2⟩)
  have PO := hide (fun i x => arV_pos (inl := inl) (n := fs.length) (fun k hk => (FP.out k hk).1) i x inl.length (by omega))
  have CK : Hid (∀ k, k < inl.length → 0 ≤ (fcA fs k).k ∧ (fcA fs k).k < 16) := hide (fun k hk => by
    have hk : k < fs.length := by omega
    have h := (vM_face hv k hk).1
    simp only [crB, Bool.and_eq_true, decide_eq_true_eq] at h
    exact ⟨h.1.2, h.2⟩)
  have RW : Hid (∀ k, k < inl.length → inl.getD k (-1) < ((rwN inl inl.length : Nat) : Int)) := hide (fun k hk => by
    have mono : ∀ a b : Nat, a ≤ b → rwN inl a ≤ rwN inl b := fun a b hab => by
      induction hab with
      | refl => exact Nat.le_refl _
      | step _ ih => exact Nat.le_trans ih (Nat.le_max_left _ _)
    have h1 := mono (k + 1) inl.length (by omega)
    have h2 : (inl.getD k (-1) + 1).toNat ≤ rwN inl (k + 1) := Nat.le_max_right _ _
    omega)
  have WK := hide (whole_k (ss := ss) (n := inl.length) RW.out CK.out inl.length (Nat.le_refl _))
  have TB := hide ((tot_bd (n := fs.length) FP.out inl.length (by omega)).2)
  have NG := hide (fun k hk => ngS_mono (ss := ss) (fs := fs) (inl := inl) (n := inl.length) (fun k hk => (FP.out k (by omega)).1) k hk)
  have RL := hide (rwN_le (inl_bdD nb) inl.length)
  have RSM := hide (fun a b hab => rsN_mono (f := arV ss fs inl inl.length) PO.out a b hab)
  have R1M := hide (fun i a b hab => rs1_mono (f := arV ss fs inl inl.length i) (PO.out i) a b hab)
  have ET : Hid (tot ss fs inl.length = tot ss fs fs.length) := hide (by rw [h3])
  have nl : inl.length ≤ 80 := by omega
  have hr := X.r1
  have VV := hide hv
  have EE := hide he
  have H3 := hide h3
  have d1 : decide ((100 : Int) < (inl.length : Int)) = false := decide_eq_false (by omega)
  have d1' : decide (100 < inl.length) = false := decide_eq_false h100
  clear hm ht hi hlg h100 hv he h3 e11 sm sm80
  go_enter Tryz.func5, Tryz.ntmps5
  go_wp2_with fail
  refine (AW.out _ (HT.out.below X.1)).mono ?_
  rintro e w1 ⟨rfl, hb⟩
  replace X := X.to hb
  clear hb hr
  have hr := X.r1
  go_wp2_with fail
  refine (LG.out _).mono ?_
  rintro e w1 ⟨rfl, hb⟩
  replace X := X.to hb
  clear hb hr
  have hr := X.r1
  go_wp2_with fail
  refine (CO.out _ (HM.out.below X.1) (HI.out.below X.1) (HT.out.below X.1).1).mono ?_
  rintro e w2 ⟨V, gs, rfl, hT, hg, hb⟩
  have T1 := hide hT
  have G1 := hide hg
  replace X := X.to hb
  clear hb hr hT hg
  obtain ⟨A8, c8, rfl, _, _⟩ := T1.out.slice
  have hr := X.r1
  go_wp2_with fail
  refine (TO.out _ (HM.out.below X.1) (HT.out.below X.1).1).mono ?_
  rintro e w3 ⟨rfl, hb⟩
  have X3 := hide (X.to hb)
  have T3 := hide (T1.out.to hb)
  clear hb hr X T1
  have hr := X3.out.r1
  obtain ⟨f, hf⟩ : ∃ f, f = arV ss fs inl inl.length := ⟨_, rfl⟩
  rw [← hf] at T3 PO WK RSM R1M
  have HF := hide hf
  clear hf
  obtain ⟨A9, c9, e9, _, hcell⟩ := T3.out.slice
  injection e9 with e9 _ e10
  subst e9
  subst e10
  have HCL := hide hcell
  have UB : Hid (∀ i, i < gs.length → ∀ x, x ≤ 16 → 0 ≤ rsN f i + rs1 (f i) x ∧ rsN f i + rs1 (f i) x ≤ 2251799813685248 * (inl.length : Int)) := hide (fun i hi x hx => by
    have h1 := RSM.out (i + 1) (rwN inl inl.length) (by have := G1.out; omega)
    have h2 := R1M.out i x 16 hx
    have h3 := RSM.out 0 i (Nat.zero_le _)
    have h4 := R1M.out i 0 x (Nat.zero_le _)
    have h5 := (NG.out inl.length (Nat.le_refl _)).1
    have h6 := WK.out
    have h7 := TB.out
    have h8 : rsN f (i + 1) = rsN f i + rs1 (f i) 16 := rfl
    have h9 : rsN f 0 = 0 := rfl
    have h10 : rs1 (f i) 0 = 0 := rfl
    omega)
  have gl : gs.length ≤ 300 := by rw [G1.out]; exact RL.out
  clear hcell
  go_wp2
  go_loop [13, 59] (fun v13 v59 => ∃ i : Nat, i ≤ gs.length ∧ v59 = .int .i64 i ∧ v13 = .int .i64 (rsN f i)) (fun _ v59 => gs.length - (intOf v59).toNat)
  case atStart => exact ⟨0, Nat.zero_le _, rfl, rfl⟩
  case round =>
    obtain ⟨i, hi, rfl, rfl⟩ := hrel
    by_cases hlt : i < gs.length
    · obtain ⟨g8, e8, hg8, hc8⟩ := HCL.out (by omega)
      obtain rfl : A8 = some ⟨g8, 0, none⟩ := e8
      have r0 := hc8 i hlt
      have VL := hide (fun x (hx : x < 16) => T3.out.val hlt hx)
      have i0 : (0 : Int) ≤ (i : Int) := by omega
      have i1 : (i : Int) < (gs.length : Int) := by omega
      have di : decide (i < gs.length) = true := decide_eq_true hlt
      have UBi := hide (UB.out i hlt)
      generalize gs[i] = gx at *
      clear hc8
      go_wp2
      go_loop [13, 68] (fun v13 v68 => ∃ x : Nat, x ≤ 16 ∧ v68 = .int .i64 x ∧ v13 = .int .i64 (rsN f i + rs1 (f i) x)) (fun _ v68 => 16 - (intOf v68).toNat)
      case atStart => exact ⟨0, by omega, rfl, by rw [show rs1 (f i) 0 = 0 from rfl, Int.add_zero]⟩
      case round =>
        obtain ⟨x, hx, rfl, rfl⟩ := hrel
        by_cases hx16 : x < 16
        · have v0 := VL.out x hx16
          have E : Hid (rsN f i + rs1 (f i) (x + 1) = rsN f i + rs1 (f i) x + f i x) := hide (by show _ + (_ + _) = _; omega)
          have ub := UBi.out (x + 1) (by omega)
          have ub0 := UBi.out x (by omega)
          rw [E.out] at ub
          have x0 : (0 : Int) ≤ (x : Int) := by omega
          have x1 : (x : Int) < 16 := by omega
          have dx : decide ((x : Int) < 16) = true := decide_eq_true x1
          have dx' : decide (x < 16) = true := decide_eq_true hx16
          generalize rsN f i + rs1 (f i) x = old at *
          generalize f i x = v at *
          have sw := IntWalk.i64_in (old + v) (by omega)
          clear ub ub0
          go_wp2
          go_round
          case rel => exact ⟨x + 1, by omega, by go_num, by rw [E.out]⟩
          case measure => simp [intOf]; omega
        · obtain rfl : x = 16 := by omega
          go_wp2
          go_round
          case rel => exact ⟨i + 1, by omega, by go_num, rfl⟩
          case measure => simp [intOf]; omega
    · obtain rfl : i = gs.length := by omega
      clear hr
      have hr := X3.out.r1
      have T0 : Hid (Own w w3 [(w.heap.size, 25, #[.slice A1 ss.length c1, .slice A2 fs.length c2])] ∧ Tr w3 w1.heap.size (.slice A8 gs.length c8) gs 16 f) := hide ⟨X3.out, T3.out⟩
      go_wp2
      clear hr
      go_loopw [13, 79] (fun v13 v79 wr => ∃ k : Nat, k ≤ inl.length ∧ v79 = .int .i64 k ∧ v13 = .int .i64 (rsN f gs.length + ngS ss fs inl k) ∧ Hid (Own w wr [(w.heap.size, 25, #[.slice A1 ss.length c1, .slice A2 fs.length c2])] ∧ Tr wr w1.heap.size (.slice A8 gs.length c8) gs 16 f)) (fun _ v79 _ => inl.length - (intOf v79).toNat)
      case atStart => exact ⟨0, Nat.zero_le _, rfl, by rw [show ngS ss fs inl 0 = 0 from rfl, Int.add_zero], T0⟩
      case round =>
        obtain ⟨k, hk, rfl, rfl, HT4⟩ := hrel
        clear T0
        by_cases hlt : k < inl.length
        · have hkf : k < fs.length := by have := H3.out; omega
          obtain ⟨bi, oi, e, hbi, hat⟩ := HI.out.2 (by omega)
          obtain rfl : A = some ⟨bi, oi, none⟩ := e
          have ci := (HT4.out.1.1.cell (p := ⟨bi, oi + k, none⟩) hbi).trans (hat k hlt)
          have TWk := hide (TW.out k hkf)
          have NS : Hid (ngS ss fs inl (k + 1) = ngS ss fs inl k + if inl[k] < 0 then twA ss (fcA fs k) else 0) := hide (by
            show ngS ss fs inl k + _ = _
            rw [show inl.getD k (-1) = inl[k] by simp [hlt]])
          have rw0 := RW.out k hlt
          rw [show inl.getD k (-1) = inl[k] by simp [hlt]] at rw0
          have ib : -9223372036854775808 ≤ inl[k] := (HI.out.1.2 k hlt).1
          have ub : 0 ≤ rsN f gs.length + ngS ss fs inl (k + 1) ∧ rsN f gs.length + ngS ss fs inl (k + 1) ≤ 2251799813685248 * (inl.length : Int) := by
            have h1 := (NG.out (k + 1) (by omega))
            have h2 := WK.out
            have h3 := TB.out
            rw [G1.out]
            have h4 := RSM.out 0 (rwN inl inl.length) (Nat.zero_le _)
            have h5 : rsN f 0 = 0 := rfl
            omega
          have g1 := G1.out
          clear hat
          generalize inl[k] = i at *
          have k0 : (0 : Int) ≤ (k : Int) := by omega
          have k1 : (k : Int) < (inl.length : Int) := by omega
          have kd : decide (k < inl.length) = true := decide_eq_true hlt
          have hr := HT4.out.1.r1
          by_cases hi0 : i < 0
          · have di : decide (i < 0) = true := decide_eq_true hi0
            have NS2 : Hid (rsN f gs.length + ngS ss fs inl (k + 1) = rsN f gs.length + ngS ss fs inl k + twA ss (fcA fs k)) := hide (by rw [NS.out, if_pos hi0]; omega)
            rw [NS2.out] at ub
            generalize rsN f gs.length + ngS ss fs inl k = old at *
            generalize twA ss (fcA fs k) = tw at *
            have sw := IntWalk.i64_in (old + tw) (by omega)
            clear ub NS hi0 g1 rw0
            go_wp2_with fail
            refine (TWk.out _ (HM.out.below HT4.out.1.1) (HT.out.below HT4.out.1.1).1).mono ?_
            rintro e w5 ⟨rfl, hb⟩
            have HT5 := hide (And.intro (HT4.out.1.to hb) (HT4.out.2.to hb))
            clear hb hr ci HT4
            go_wp2
            go_roundw
            case rel => exact ⟨k + 1, by omega, by go_num, by rw [NS2.out], HT5⟩
            case measure => simp [intOf]; omega
          · have di : decide (i < 0) = false := decide_eq_false hi0
            have dg : decide ((gs.length : Int) ≤ i) = false := decide_eq_false (by omega)
            have NS2 : Hid (ngS ss fs inl (k + 1) = ngS ss fs inl k) := hide (by rw [NS.out, if_neg hi0]; omega)
            clear ub NS hi0 g1 rw0
            go_wp2_with fail
            refine (TWk.out _ (HM.out.below HT4.out.1.1) (HT.out.below HT4.out.1.1).1).mono ?_
            rintro e w5 ⟨rfl, hb⟩
            have HT5 := hide (And.intro (HT4.out.1.to hb) (HT4.out.2.to hb))
            clear hb hr ci HT4
            go_wp2
            go_roundw
            case rel => exact ⟨k + 1, by omega, by go_num, by rw [NS2.out], HT5⟩
            case measure => simp [intOf]; omega
        · obtain rfl : k = inl.length := by omega
          have hr := HT4.out.1.r1
          have EQS : Hid (rsN f gs.length + ngS ss fs inl inl.length = tot ss fs fs.length) := hide (by rw [G1.out, WK.out, ET.out])
          rw [EQS.out]
          have TBF := hide (by have := TB.out; rw [ET.out] at this; exact this : tot ss fs fs.length ≤ 2251799813685248 * (inl.length : Int))
          generalize tot ss fs fs.length = whole at *
          have nw : (whole != whole) = false := by simp
          have e1 : (fr : Int).tmod 16 = ((fr % 16 : Nat) : Int) := rfl
          have e2 : (to' : Int).tmod 16 = ((to' % 16 : Nat) : Int) := rfl
          have p15 : fr % 16 ≤ 15 := by omega
          have q15 : to' % 16 ≤ 15 := by omega
          generalize fr % 16 = p at *
          generalize to' % 16 = q at *
          have CH := hide (fun W h ht => chg_ok ss fs A1 A2 c1 c2 (p : Int) (q : Int) W h ht VV.out ⟨by omega, by omega⟩ ⟨by omega, by omega⟩)
          unfold ChgPost at CH
          have VV2 := hide (vM_chg (p := (p : Int)) (q := (q : Int)) ⟨by omega, by omega⟩ VV.out)
          have EE2 := hide (arE_chg (p := (p : Int)) (q := (q : Int)) (by omega) EE.out)
          have CO2 : Hid (∀ B1 d1 B2 d2 W, MshSl W ⟨ss, fs.map (chf (p : Int) (q : Int))⟩ ⟨B1, d1, B2, d2⟩ → IntSl W A inl → Lib.TabIs Tryz.prog W "internal/strconv.uint64pow10" .u64 Lib.pow10Tab → Calls Tryz.prog 12 #[.agg #[.slice B1 ss.length d1, .slice B2 fs.length d2], .slice A inl.length cp, .int .i64 16] W (ArPost ss (fs.map (chf (p : Int) (q : Int))) inl 16 W)) := hide (fun B1 d1 B2 d2 W h hi ht => by
            have := areas_ok ss (fs.map (chf (p : Int) (q : Int))) B1 B2 d1 d2 inl A cp 16 W h hi ht VV2.out EE2.out
            rw [List.length_map] at this
            exact this)
          unfold ArPost at CO2
          obtain ⟨f', hf'⟩ : ∃ f', f' = arV ss (fs.map (chf (p : Int) (q : Int))) inl inl.length := ⟨_, rfl⟩
          rw [← hf'] at CO2
          have FR1 : Hid (p = q → ∀ i x, f' i x = f i x) := hide (fun e i x => by rw [hf', e, chf_map_same, HF.out])
          have FR2 : Hid (p ≠ q → ∀ i x, f' i x = if x = q then f i q + f i p else if x = p then 0 else f i x) := hide (fun e i x => by rw [hf', arV_chg e i x inl.length (by have := H3.out; omega), HF.out])
          have FB2 : Hid (∀ i x, i64 (f' i x)) := hide (fun i x => by rw [hf']; exact arV_i64W VV2.out (by rw [List.length_map]; exact H3.out) i x)
          clear hf' UB RSM R1M WK NG RW PO TB FP TW TO CO
          go_wp2_with fail
          refine (CH.out _ (HM.out.below HT4.out.1.1) (HT.out.below HT4.out.1.1).1).mono ?_
          rintro e w6 ⟨hb, B1, d1, B2, d2, rfl, hx, -, -⟩
          have s6 : w.heap.size < w6.heap.size := by
            have h1 := hb.size
            have h2 := hr.2.2
            omega
          have HA6 : Below w6.heap.size w6 (w6.alloc (.cells #[.slice B1 ss.length d1, .slice B2 fs.length d2] 25)) := (Below.refl _ _).alloc (Nat.le_refl _) _
          have X6 := hide ((HT4.out.1.to hb).alloc #[.slice B1 ss.length d1, .slice B2 fs.length d2] 25)
          have T6 := hide ((HT4.out.2.to hb).to HA6)
          have HX6 := hide (hx.below HA6)
          clear hb hr hx HA6 HT4
          have hr := X6.out.r2
          go_wp2_with fail
          refine (CO2.out _ _ _ _ _ HX6.out (HI.out.below X6.out.1) (HT.out.below X6.out.1).1).mono ?_
          rintro e w7 ⟨V', gs', rfl, hT', hg', hb⟩
          have X7 := hide (X6.out.to hb)
          have T7 := hide (T6.out.to hb)
          have U7 := hide hT'
          have GG : Hid (gs.length = gs'.length) := hide (G1.out.trans hg'.symm)
          clear hb hr hT' hg' X6 T6 HX6
          obtain ⟨A9, c9, rfl, _, _⟩ := U7.out.slice
          have lq : ((gs.length : Int) != (gs'.length : Int)) = false := by have := GG.out; simp; omega
          have lq' : ((gs.length : Int) == (gs'.length : Int)) = true := by have := GG.out; simp; omega
          have hr := X7.out.r2
          obtain ⟨b1, U8⟩ : ∃ b1, Hid (Tr w7 b1 (.slice A9 gs'.length c9) gs' 16 f') := ⟨_, U7⟩
          have L0 : Hid (Below w.heap.size w w7 ∧ Tr w7 w1.heap.size (.slice A8 gs.length c8) gs 16 f ∧ Tr w7 b1 (.slice A9 gs'.length c9) gs' 16 f') := hide ⟨X7.out.1, T7.out, U8.out⟩
          clear U7 U8 T7 X7
          go_wp2
          clear hr
          go_loopw [146] (fun v146 wr => ∃ i : Nat, i ≤ gs.length ∧ v146 = .int .i64 i ∧ Hid (Below w.heap.size w wr ∧ Tr wr w1.heap.size (.slice A8 gs.length c8) gs 16 f ∧ Tr wr b1 (.slice A9 gs'.length c9) gs' 16 f')) (fun v146 _ => gs.length - (intOf v146).toNat)
          case atStart => exact ⟨0, Nat.zero_le _, rfl, L0⟩
          case round =>
            obtain ⟨i, hi, rfl, HL⟩ := hrel
            clear L0
            by_cases hlt : i < gs.length
            · have hlt2 : i < gs'.length := by have := GG.out; omega
              obtain ⟨A, c, e, _, hc⟩ := HL.out.2.1.slice
              injection e with e _ ec
              subst e
              obtain ⟨g8, e8, hg8, hc8⟩ := hc (by omega)
              obtain rfl : A8 = some ⟨g8, 0, none⟩ := e8
              obtain ⟨A', c', e', _, hc'⟩ := HL.out.2.2.slice
              injection e' with e' _ ec'
              subst e'
              obtain ⟨g9, e9, hg9, hc9⟩ := hc' (by omega)
              obtain rfl : A9 = some ⟨g9, 0, none⟩ := e9
              have r0 := hc8 i hlt
              have r1 := hc9 i hlt2
              have CL := hide (clRow_any (n := 16) (h := f i) (by omega) (HL.out.2.1.r i hlt))
              unfold ClRow at CL
              have B2 := hide (HL.out.2.2.r i hlt2)
              have EQF : Hid (∀ gw cw W2, Rw wr W2 gw 16 cw ((List.range 16).map (f' i)) → Calls Tryz.prog 15 #[.slice (some ⟨gs'[i], 0, none⟩) 16 16, .slice (some ⟨gw, 0, none⟩) 16 cw] W2 fun e w' => e = .returned (.bool true) ∧ Below W2.heap.size W2 w') := hide (fun gw cw W2 hR => by
                have s1 := IntSl.of_blk (B2.out.below hR.below B2.out.lt) (by omega) (fun x _ => FB2.out i x)
                have s2 := hR.sl (by simp) (fun j hj => by
                  rw [List.getElem_map]
                  exact FB2.out i _)
                have := equalI_any _ _ _ _ 16 cw W2 s1 s2
                rw [show eqB ((List.range 16).map (f' i)) ((List.range 16).map (f' i)) = true by simp [eqB]] at this
                simpa using this)
              have F1 := hide (fun e => FR1.out e i)
              have F2 := hide (fun e => FR2.out e i)
              have FBi := hide (FB2.out i)
              clear ec ec' hc hc' hc8 hc9 B2
              generalize gs[i] = x1 at *
              generalize gs'[i] = x2 at *
              generalize f i = h at *
              generalize f' i = h' at *
              have i0 : (0 : Int) ≤ (i : Int) := by omega
              have i1 : (i : Int) < (gs.length : Int) := by omega
              have i2 : (i : Int) < (gs'.length : Int) := by omega
              have di : decide (i < gs.length) = true := decide_eq_true hlt
              go_wp2_with fail
              refine CL.out.mono ?_
              rintro e w8 ⟨gw, cw, rfl, hcw, hrow, hb⟩
              have RW8 : Hid (Rw wr w8 gw 16 cw ((List.range 16).map h)) := hide ⟨hrow, hb⟩
              have HL8 : Hid (Below w.heap.size w w8 ∧ Tr w8 w1.heap.size (.slice (some ⟨g8, 0, none⟩) gs.length c8) gs 16 f ∧ Tr w8 b1 (.slice (some ⟨g9, 0, none⟩) gs'.length c9) gs' 16 f') := hide ⟨below_via HL.out.1 HL.out.1.size hb, HL.out.2.1.to hb, HL.out.2.2.to hb⟩
              replace r1 := (hb.cell (p := ⟨g9, i, none⟩) hg9).trans r1
              have hg9' : g9 < w8.heap.size := Nat.lt_of_lt_of_le hg9 hb.size
              have ge : wr.heap.size ≤ gw := (hrow.lt gw rfl).1
              have n1 : ¬ g9 = gw := by omega
              have n2 : ¬ gw = g9 := by omega
              have HLW : Hid (∀ W', Below wr.heap.size wr W' → Below w.heap.size w W' ∧ Tr W' w1.heap.size (.slice (some ⟨g8, 0, none⟩) gs.length c8) gs 16 f ∧ Tr W' b1 (.slice (some ⟨g9, 0, none⟩) gs'.length c9) gs' 16 f') := hide (fun W' h => ⟨below_via HL.out.1 HL.out.1.size h, HL.out.2.1.to h, HL.out.2.2.to h⟩)
              clear hrow hb CL r0 HL
              by_cases hpq : p = q
              · have z1 : ((p : Int) == (q : Int)) = true := by simp; omega
                have z2 : ((p : Int) != (q : Int)) = false := by simp; omega
                have EL : Hid ((List.range 16).map h = (List.range 16).map h') := hide (by
                  congr 1
                  funext x
                  exact (F1.out hpq x).symm)
                have E := hide (EQF.out gw cw w8 (by rw [← EL.out]; exact RW8.out))
                clear hpq F1 F2 EQF RW8
                go_wp2_with fail
                refine E.out.mono ?_
                rintro e w9 ⟨rfl, hb⟩
                have HL9 : Hid (Below w.heap.size w w9 ∧ Tr w9 w1.heap.size (.slice (some ⟨g8, 0, none⟩) gs.length c8) gs 16 f ∧ Tr w9 b1 (.slice (some ⟨g9, 0, none⟩) gs'.length c9) gs' 16 f') := hide ⟨below_via HL8.out.1 HL8.out.1.size hb, HL8.out.2.1.to hb, HL8.out.2.2.to hb⟩
                clear hb HL8
                go_wp2
                go_roundw
                case rel => exact ⟨i + 1, by omega, by go_num, HL9⟩
                case measure => simp [intOf]; omega
              · have z1 : ((p : Int) == (q : Int)) = false := by simp; omega
                have z2 : ((p : Int) != (q : Int)) = true := by simp; omega
                obtain ⟨s, hs⟩ : ∃ s, s = h q + h p := ⟨_, rfl⟩
                have hq' : h' q = h q + h p := by rw [F2.out hpq q, if_pos rfl]
                have sb := FBi.out q
                rw [hq'] at sb
                unfold i64 at sb
                have SW2 : Hid (wrap64 (h q + h p) = s) := hide ((IntWalk.wrap64_in _ sb).trans hs.symm)
                have EL : Hid ((((List.range 16).map h).set q s).set p 0 = (List.range 16).map h') := hide (by
                  apply List.ext_getElem
                  · simp
                  · intro x hx1 hx2
                    have hx : x < 16 := by simpa using hx2
                    rw [List.getElem_set, List.getElem_set]
                    simp only [List.getElem_map, List.getElem_range]
                    rw [F2.out hpq x]
                    by_cases ep : p = x
                    · subst ep
                      rw [if_pos rfl, if_neg hpq, if_pos rfl]
                    · rw [if_neg ep]
                      by_cases eq' : q = x
                      · subst eq'
                        rw [if_pos rfl, if_pos rfl, hs]
                      · rw [if_neg eq', if_neg (fun e => eq' e.symm), if_neg (fun e => ep e.symm)])
                have lq0 : q < ((List.range 16).map h).length := by simp; omega
                have lp0 : p < ((List.range 16).map h).length := by simp; omega
                obtain ⟨v1, _, gl8⟩ := RW8.out.cell lq0
                obtain ⟨v2, _, _⟩ := RW8.out.cell lp0
                simp only [List.getElem_map, List.getElem_range] at v1 v2
                have q0 : (0 : Int) ≤ (q : Int) := by omega
                have q1 : (q : Int) < 16 := by omega
                have p0 : (0 : Int) ≤ (p : Int) := by omega
                have p1 : (p : Int) < 16 := by omega
                have HPQ := hide hpq
                clear hpq F1 F2 FBi hs hq' sb HL8
                generalize h q = hq at *
                generalize h p = hp at *
                have NE : Nonempty (OwnW w8 []) := ⟨⟨_, Own.start w8⟩⟩
                have V1 := fun y : OwnW w8 [] => (y.own.1.cell (p := ⟨gw, q, none⟩) gl8).trans v1
                have V2 := fun y : OwnW w8 [] => (y.own.1.cell (p := ⟨gw, p, none⟩) gl8).trans v2
                go_upto_region 42 with (fail)
                refine wp_region_own_tail (w := w8) (L := []) 10 (by kernel_rfl) (by kernel_rfl) (Own.start w8) ?_
                simp only [List.take_succ_cons, List.take_zero, List.drop_succ_cons, List.drop_zero]
                repeat (go_big_quiet_step (fail))
                refine wpQuiet_nil ?_
                rintro W ⟨⟨W, HO⟩, rfl⟩
                rw [SW2.out]
                have RA := hide (RW8.out.to HO.1)
                have RB := hide (RA.out.set q s)
                have RC := hide (RB.out.set p 0)
                rw [EL.out] at RC
                obtain ⟨u1, u2, u3⟩ := RA.out.cell lq0
                obtain ⟨t1, t2, t3⟩ := RB.out.cell (x := p) (by simp; omega)
                have r2 := (HO.1.cell (p := ⟨g9, i, none⟩) hg9').trans r1
                have E := hide (EQF.out gw cw _ RC.out)
                clear V1 V2 NE HO r1 v1 v2 EL EQF
                go_wp2_with fail
                refine E.out.mono ?_
                rintro e w9 ⟨rfl, hb⟩
                have HL9 := hide (HLW.out _ (below_via RC.out.below RC.out.below.size hb))
                clear hb HLW E RA RB RC u1 u2 u3 t1 t2 t3 r2
                go_wp2
                go_roundw
                case rel => exact ⟨i + 1, by omega, by go_num, HL9⟩
                case measure => simp [intOf]; omega
            · obtain rfl : i = gs.length := by omega
              go_wp2
              go_ret
              exact ⟨rfl, HL.out.1⟩
end Go.Proofs.YtaaadejamjbcbaaGreatDoor
