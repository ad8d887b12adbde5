/- Parts of one proof, joined: Trench at any surface and line: the volume, or the error; nothing that was there is turned (printed by gen_trm.py). What a name is, said of lists of bytes: letters, digits, how many bytes at the beginning are those of a word. The program's IsName: it reports whether a string is a name, for every string; it leaves the world as it is. Items of bills in memory; slices.IndexFunc and slices.ContainsFunc at items; valid bills; nothing that was there is turned. -/
import Derived.Test.YtdcdfjinbieblaaGreatDoorPkCostsPipes13
import Derived.Test.YtdcdfjinbieblaaGreatDoorPkCostsPipes2
namespace Go.Proofs.YtdcdfjinbieblaaGreatDoor
open Go Go.RowKit

theorem sc16 {x : Int} {k : Nat} (h : -134217728 ≤ x * (k : Int) ∧ x * (k : Int) ≤ 134217728) : scE x (k : Int) 16 = 0 ∧ scLo x (k : Int) 16 = dn (x * (k : Int)) 16 ∧ scHi x (k : Int) 16 = up (x * (k : Int)) 16 := by
  have b := dn_rng (n := x * (k : Int)) (d := 16) (z := 8388608) (by omega) (by omega) (by omega)
  have b1 : i64B (dn (x * (k : Int)) 16) = true := i64B_iff.2 (by omega)
  have b2 : i64B (up (x * (k : Int)) 16) = true := i64B_iff.2 (by omega)
  refine ⟨?_, ?_, ?_⟩
  · unfold scE; rw [if_neg (by omega), if_pos ⟨b1, b2⟩]
  · unfold scLo; rw [if_pos ⟨by omega, b1, b2⟩]
  · unfold scHi; rw [if_pos ⟨by omega, b1, b2⟩]
theorem scW {x y : Int} (h : 0 ≤ x ∧ x ≤ 570425344) (h' : 0 ≤ y ∧ y ≤ 671088640000) : scE x y 32000 = 0 ∧ scLo x y 32000 = dn (x * y) 32000 ∧ scHi x y 32000 = up (x * y) 32000 := by
  have p0 : 0 ≤ x * y := Int.mul_nonneg h.1 h'.1
  have p1 : x * y ≤ 570425344 * 671088640000 := Int.mul_le_mul h.2 h'.2 h'.1 (by omega)
  have b := dn_rng (n := x * y) (d := 32000) (z := 11962686510202880) (by omega) (by omega) (by omega)
  have b1 : i64B (dn (x * y) 32000) = true := i64B_iff.2 (by omega)
  have b2 : i64B (up (x * y) 32000) = true := i64B_iff.2 (by omega)
  refine ⟨?_, ?_, ?_⟩
  · unfold scE; rw [if_neg (by omega), if_pos ⟨b1, b2⟩]
  · unfold scLo; rw [if_pos ⟨by omega, b1, b2⟩]
  · unfold scHi; rw [if_pos ⟨by omega, b1, b2⟩]
set_option maxRecDepth 100000 in
set_option maxHeartbeats 8000000 in
theorem cotrench_none (m : Msh) (a : MshA) (p q : Pnt) (u d wd : Int) (w : World) (hm : MshSl w m a) (ht : Lib.TabIs Tryz.prog w "internal/strconv.uint64pow10" .u64 Lib.pow10Tab) (hv : vM m = true) (hp : inP p = true) (hq : inP q = true) (hne : p ≠ q) (hr0 : rngB u d wd = true) (hl : allL m p q 17 = false) : Calls Tryz.prog 17 #[m.val a, p.val, q.val, .int .i64 u, .int .i64 d, .int .i64 wd] w (ErrP 12 w) := by
  have P1 := hide (fun W => plvalid_any p W)
  have P2 := hide (fun W => plvalid_any q W)
  have B1 := hide (fun W => cobetween_any u (-4194304) 4194304 W)
  have B2 := hide (fun W => cobetween_any d (-4194304) 4194304 W)
  have B3 := hide (fun W => cobetween_any wd 1 10000 W)
  have LV := hide (fun W h h' => tsLevels_any m a p q W h h' hv (inP_iff.1 hp) (inP_iff.1 hq) hne)
  have DI := hide (fun W => pldist_any p q W (inP_iff.1 hp) (inP_iff.1 hq))
  rw [hp] at P1
  rw [hq] at P2
  obtain ⟨ru, rd, rw1, rw2⟩ := rngB_iff.1 hr0
  have cb : ((decide (-4194304 ≤ u) && decide (u ≤ 4194304)) = true ∧ (decide (-4194304 ≤ d) && decide (d ≤ 4194304)) = true ∧ (decide (1 ≤ wd) && decide (wd ≤ 10000)) = true) := by
    simp only [Bool.and_eq_true, decide_eq_true_eq]; omega
  rw [cb.1] at B1
  rw [cb.2.1] at B2
  rw [cb.2.2] at B3
  unfold RetW at P1 P2 DI
  have ways : (p.x == q.x) = false ∨ ((p.x == q.x) = true ∧ (p.y == q.y) = false) := by
    cases h1 : (p.x == q.x) <;> cases h2 : (p.y == q.y) <;> simp_all
    exact hne (by cases p; cases q; simp_all)
  have E12 : lvE m p q = 12 := by simp [lvE, hl]
  rw [E12] at LV
  have MV := hide (fun W h h' => msvalid_any m a W h h')
  rw [hv] at MV
  unfold RetW at MV
  have HM := hide hm
  have HT := hide ht
  obtain ⟨A1, c1, A2, c2⟩ := a
  have X := ((((Own.start w).alloc #[.slice A1 m.ss.length c1, .slice A2 m.fs.length c2] 65).alloc #[.int .i64 p.x, .int .i64 p.y] 68).alloc #[.int .i64 q.x, .int .i64 q.y] 68).alloc #[.int .i64 0, .int .i64 0] 36
  simp only [World.size_alloc] at X
  have hr := X.r4
  clear hm ht hv hp hq hne hr0 hl cb E12 ru rd rw1 rw2 DI
  rcases ways with q1 | ⟨q1, q2⟩
  all_goals
    go_enter Tryz.func17, Tryz.ntmps17
    go_wp2_with fail
    refine (MV.out _ (HM.out.below X.1) (tab_below HT.out X.1)).mono ?_
    rintro e w1 ⟨rfl, hb⟩
    replace X := X.to hb
    clear hr hb
    have hr := X.r4
    go_wp2_with fail
    refine (P1.out _).mono ?_
    rintro e w2 ⟨rfl, hb⟩
    replace X := X.to hb
    clear hr hb
    have hr := X.r4
    go_wp2_with fail
    refine (P2.out _).mono ?_
    rintro e w3 ⟨rfl, hb⟩
    replace X := X.to hb
    clear hr hb
    have hr := X.r4
    go_wp2_with fail
    refine (B1.out _).mono ?_
    rintro e w' ⟨rfl, rfl⟩
    go_wp2_with fail
    refine (B2.out _).mono ?_
    rintro e w' ⟨rfl, rfl⟩
    go_wp2_with fail
    refine (B3.out _).mono ?_
    rintro e w' ⟨rfl, rfl⟩
    go_wp2_with fail
    refine (LV.out _ (HM.out.below X.1) (tab_below HT.out X.1)).mono ?_
    rintro e w4 ⟨hb, A, n, cap, rfl, hS⟩
    have XB4 := hide X.1
    replace X := X.to hb
    clear hr hb
    have hr := X.r4
    clear hS
    have XB := hide X.1
    go_wp2
    exact bodyPost_ret (v := .tuple #[.agg #[.int .i64 0, .int .i64 0], .int .i64 12]) (by simp [results, Tryz.results17, hr, go_sem]) rfl ⟨rfl, by have HX := XB.out; have hz := HX.size; go_grown⟩
set_option maxRecDepth 100000 in
set_option maxHeartbeats 16000000 in
theorem cotrench_ok (m : Msh) (a : MshA) (p q : Pnt) (u d wd : Int) (w : World) (hm : MshSl w m a) (ht : Lib.TabIs Tryz.prog w "internal/strconv.uint64pow10" .u64 Lib.pow10Tab) (hv : vM m = true) (hp : inP p = true) (hq : inP q = true) (hne : p ≠ q) (hr0 : rngB u d wd = true) (hl : allL m p q 17 = true) : Calls Tryz.prog 17 #[m.val a, p.val, q.val, .int .i64 u, .int .i64 d, .int .i64 wd] w (RetW (.tuple #[(trS m p q u d wd).val, .int .i64 0]) w) := by
  have P1 := hide (fun W => plvalid_any p W)
  have P2 := hide (fun W => plvalid_any q W)
  have B1 := hide (fun W => cobetween_any u (-4194304) 4194304 W)
  have B2 := hide (fun W => cobetween_any d (-4194304) 4194304 W)
  have B3 := hide (fun W => cobetween_any wd 1 10000 W)
  have LV := hide (fun W h h' => tsLevels_any m a p q W h h' hv (inP_iff.1 hp) (inP_iff.1 hq) hne)
  have DI := hide (fun W => pldist_any p q W (inP_iff.1 hp) (inP_iff.1 hq))
  rw [hp] at P1
  rw [hq] at P2
  obtain ⟨ru, rd, rw1, rw2⟩ := rngB_iff.1 hr0
  have cb : ((decide (-4194304 ≤ u) && decide (u ≤ 4194304)) = true ∧ (decide (-4194304 ≤ d) && decide (d ≤ 4194304)) = true ∧ (decide (1 ≤ wd) && decide (wd ≤ 10000)) = true) := by
    simp only [Bool.and_eq_true, decide_eq_true_eq]; omega
  rw [cb.1] at B1
  rw [cb.2.1] at B2
  rw [cb.2.2] at B3
  unfold RetW at P1 P2 DI
  have ways : (p.x == q.x) = false ∨ ((p.x == q.x) = true ∧ (p.y == q.y) = false) := by
    cases h1 : (p.x == q.x) <;> cases h2 : (p.y == q.y) <;> simp_all
    exact hne (by cases p; cases q; simp_all)
  have E0 : lvE m p q = 0 := by simp [lvE, hl]
  rw [E0] at LV
  have ip := inP_iff.1 hp
  have iq := inP_iff.1 hq
  obtain ⟨D1, D2, D3⟩ := dsS_bd ip iq
  have SB := hide (fun k (hk : k ≤ 17) => sm_bd hv ru rd hl k hk hk)
  have GB := hide (fun k (hk : k < 17) => lvG_bd hv hl hk)
  have PB := hide (fun k (hk : k ≤ 16) => pip_bd ru rd hk)
  have SC := hide (fun k (hk : k ≤ 16) => sc16 (x := d - u) (k := k) (pip_bd ru rd hk).1)
  have SCC := hide (fun (k : Nat) (W : World) => fun (hk : k ≤ 16) => scale_full (d - u) (k : Int) 16 W (by omega) (by omega) (by omega) (by omega) (by omega) (by omega) (by omega))
  have TS := hide (trS_lo m p q u d wd)
  have TH := hide (trS_hi m p q u d wd)
  obtain ⟨x1, hx1⟩ : ∃ x1, x1 = (dsS p q).lo * wd := ⟨_, rfl⟩
  obtain ⟨x2, hx2⟩ : ∃ x2, x2 = (dsS p q).hi * wd := ⟨_, rfl⟩
  rw [← hx1] at TS
  rw [← hx2] at TH
  have bx1 : 0 ≤ x1 ∧ x1 ≤ 671088640000 := by
    rw [hx1]
    exact ⟨Int.mul_nonneg D1 (by omega), Int.le_trans (Int.mul_le_mul (by omega : (dsS p q).lo ≤ 67108864) rw2 (by omega) (by omega)) (by omega)⟩
  have bx2 : 0 ≤ x2 ∧ x2 ≤ 671088640000 := by
    rw [hx2]
    exact ⟨Int.mul_nonneg (by omega) (by omega), Int.le_trans (Int.mul_le_mul D3 rw2 (by omega) (by omega)) (by omega)⟩
  have wx1 : IntKind.i64.wrap ((dsS p q).lo * wd) = x1 := by rw [← hx1]; exact IntWalk.i64_in _ (by omega)
  have wx2 : IntKind.i64.wrap ((dsS p q).hi * wd) = x2 := by rw [← hx2]; exact IntWalk.i64_in _ (by omega)
  have S17 := SB.out 17 (by omega)
  have Z1 := scW (x := smL m p q u d 17) (y := x1) ⟨S17.1, by omega⟩ bx1
  have Z2 := scW (x := smH m p q u d 17) (y := x2) ⟨by omega, by omega⟩ bx2
  have SA := hide (fun W => scale_full (smL m p q u d 17) x1 32000 W (by omega) (by omega) (by omega) (by omega) (by omega) (by omega) (by omega))
  have SD := hide (fun W => scale_full (smH m p q u d 17) x2 32000 W (by omega) (by omega) (by omega) (by omega) (by omega) (by omega) (by omega))
  rw [Z1.1, Z1.2.1, Z1.2.2] at SA
  rw [Z2.1, Z2.2.1, Z2.2.2] at SD
  rw [← TS.out] at SA
  rw [← TH.out] at SD
  have wdu := IntWalk.i64_in (d - u) (by omega)
  have MV := hide (fun W h h' => msvalid_any m a W h h')
  rw [hv] at MV
  unfold RetW at MV
  have HM := hide hm
  have HT := hide ht
  obtain ⟨A1, c1, A2, c2⟩ := a
  have X := ((((Own.start w).alloc #[.slice A1 m.ss.length c1, .slice A2 m.fs.length c2] 65).alloc #[.int .i64 p.x, .int .i64 p.y] 68).alloc #[.int .i64 q.x, .int .i64 q.y] 68).alloc #[.int .i64 0, .int .i64 0] 36
  simp only [World.size_alloc] at X
  have hr := X.r4
  clear hm ht hv hp hq hne hr0 hl cb E0 ip iq D1 D2 D3 hx1 hx2 bx1 bx2 S17 Z1 Z2 TS TH
  generalize trS m p q u d wd = R at *
  generalize up (smL m p q u d 17 * x1) 32000 = j1 at *
  generalize dn (smH m p q u d 17 * x2) 32000 = j2 at *
  generalize dsS p q = ds at *
  rcases ways with q1 | ⟨q1, q2⟩
  all_goals
    go_enter Tryz.func17, Tryz.ntmps17
    go_wp2_with fail
    refine (MV.out _ (HM.out.below X.1) (tab_below HT.out X.1)).mono ?_
    rintro e w1 ⟨rfl, hb⟩
    replace X := X.to hb
    clear hr hb
    have hr := X.r4
    go_wp2_with fail
    refine (P1.out _).mono ?_
    rintro e w2 ⟨rfl, hb⟩
    replace X := X.to hb
    clear hr hb
    have hr := X.r4
    go_wp2_with fail
    refine (P2.out _).mono ?_
    rintro e w3 ⟨rfl, hb⟩
    replace X := X.to hb
    clear hr hb
    have hr := X.r4
    go_wp2_with fail
    refine (B1.out _).mono ?_
    rintro e w' ⟨rfl, rfl⟩
    go_wp2_with fail
    refine (B2.out _).mono ?_
    rintro e w' ⟨rfl, rfl⟩
    go_wp2_with fail
    refine (B3.out _).mono ?_
    rintro e w' ⟨rfl, rfl⟩
    go_wp2_with fail
    refine (LV.out _ (HM.out.below X.1) (tab_below HT.out X.1)).mono ?_
    rintro e w4 ⟨hb, A, n, cap, rfl, hS⟩
    have XB4 := hide X.1
    replace X := X.to hb
    clear hr hb
    have hr := X.r4
    obtain ⟨rfl, SL⟩ := hS rfl
    have lG := lvL_len m p q 17
    have IG := hide (fun k (hk : k < 17) => (show (lvL m p q 17)[k]? = some (lvG m p q k) by simp [lvL, hk]))
    clear hS
    generalize lvL m p q 17 = G at *
    go_wp2_with fail
    refine (DI.out _).mono ?_
    rintro e w5 ⟨rfl, hb⟩
    have SL5 := hide (SL.below hb)
    replace X := hide ((X.to hb).alloc #[.int .i64 ds.lo, .int .i64 ds.hi] 36)
    clear hr hb SL
    have hr := X.out.r5
    go_wp2
    go_loopw [17, 18, 87] (fun v17 v18 v87 wr => ∃ k : Nat, k ≤ 17 ∧ v87 = .int .i64 (k : Int) ∧ v17 = .int .i64 (smL m p q u d k) ∧ v18 = .int .i64 (smH m p q u d k) ∧ Hid (SpnSl wr A G) ∧
      Hid (Own w wr [(w5.heap.size, 36, #[.int .i64 ds.lo, .int .i64 ds.hi]), (w.heap.size + 1 + 1 + 1, 36, #[.int .i64 0, .int .i64 0]), (w.heap.size + 1 + 1, 68, #[.int .i64 q.x, .int .i64 q.y]), (w.heap.size + 1, 68, #[.int .i64 p.x, .int .i64 p.y]), (w.heap.size, 65, #[.slice A1 m.ss.length c1, .slice A2 m.fs.length c2])])) (fun _ _ v _ => 17 - (intOf v).toNat)
    case atStart => exact ⟨0, by omega, rfl, rfl, rfl, hide (SL5.out.below ((Below.refl _ _).alloc (Nat.le_refl _) _)), X⟩
    case round =>
      clear X hr
      obtain ⟨k, hk, rfl, rfl, rfl, SW, X⟩ := hrel
      have hr := X.out.r5
      by_cases hlt : k < 17
      · have g1 : decide (k < G.length) = true := decide_eq_true (by omega)
        have g2 : (0 : Int) ≤ (k : Int) := by omega
        have g3 : (k : Int) < (G.length : Int) := by omega
        obtain ⟨b, off, rfl, hbl, hat⟩ := SW.out.2 (by omega)
        obtain ⟨d0, d1⟩ := hat k (by omega)
        have eG : G[k]'(by omega) = lvG m p q k := by
          have := IG.out k hlt
          rw [List.getElem?_eq_getElem (by omega)] at this
          exact Option.some.inj this
        rw [eG] at d0 d1
        have gb := GB.out k hlt
        obtain ⟨_, pb1, pb2, _⟩ := PB.out k (by omega)
        have sbk := SB.out k (by omega)
        have sbn := SB.out (k + 1) (by omega)
        have SK := hide (fun W => SCC.out k W (by omega))
        obtain ⟨z1, z2, z3⟩ := SC.out k (by omega)
        rw [z1, z2, z3] at SK
        rw [show dn ((d - u) * (k : Int)) 16 = pLo u d k from rfl, show up ((d - u) * (k : Int)) 16 = pHi u d k from rfl] at SK
        have EL : Hid (smL m p q u d (k + 1) = smL m p q u d k + tms k * max 0 ((lvG m p q k).lo - u - pHi u d k)) := hide rfl
        have EH : Hid (smH m p q u d (k + 1) = smH m p q u d k + tms k * max 0 ((lvG m p q k).hi - u - pLo u d k)) := hide rfl
        have ET : Hid (tms k = if k = 0 ∨ k = 16 then 1 else 2) := hide rfl
        clear hat eG z1 z2 z3
        obtain ⟨sL, hsL⟩ : ∃ x, x = smL m p q u d (k + 1) := ⟨_, rfl⟩
        obtain ⟨sH, hsH⟩ : ∃ x, x = smH m p q u d (k + 1) := ⟨_, rfl⟩
        rw [← hsL] at EL sbn
        rw [← hsH] at EH sbn
        replace hsL := hide hsL
        replace hsH := hide hsH
        generalize smL m p q u d k = l0 at *
        generalize smH m p q u d k = h0 at *
        generalize lvG m p q k = s at *
        generalize pLo u d k = plo at *
        generalize pHi u d k = phi at *
        have a1 := IntWalk.i64_in (s.lo - u) (by omega)
        have a2 := IntWalk.i64_in (s.lo - u - phi) (by omega)
        have a3 := IntWalk.i64_in (s.hi - u) (by omega)
        have a4 := IntWalk.i64_in (s.hi - u - plo) (by omega)
        have nb : ¬ b = wr.heap.size := by omega
        have nw := hr.2.2.2.2.2.2
        go_wp2_with fail
        refine (SK.out _).mono ?_
        rintro e w6 ⟨rfl, hb⟩
        have SV := hide (SW.out.below (((Below.refl _ wr).alloc (Nat.le_refl _) (.cells #[.int .i64 s.lo, .int .i64 s.hi] 36)).trans (hb.mono (by simp))))
        replace X := hide ((X.out.alloc #[.int .i64 s.lo, .int .i64 s.hi] 36).to hb)
        clear hr hb SW
        have hr := X.out.r6
        have XT := hide X.out.tail
        have ways2 : (((k : Int) == 0) = true ∧ Hid (sL = l0 + max 0 (s.lo - u - phi) ∧ sH = h0 + max 0 (s.hi - u - plo))) ∨ (((k : Int) == 0) = false ∧ ((k : Int) == 16) = true ∧ Hid (sL = l0 + max 0 (s.lo - u - phi) ∧ sH = h0 + max 0 (s.hi - u - plo))) ∨
            (((k : Int) == 0) = false ∧ ((k : Int) == 16) = false ∧ Hid (sL = l0 + 2 * max 0 (s.lo - u - phi) ∧ sH = h0 + 2 * max 0 (s.hi - u - plo))) := by
          rw [EL.out, EH.out, ET.out]
          by_cases k0 : k = 0
          · exact .inl ⟨beq_iff_eq.2 (by omega), hide (by rw [if_pos (.inl k0)]; omega)⟩
          · by_cases k16 : k = 16
            · exact .inr (.inl ⟨beq_eq_false_iff_ne.2 (by omega), beq_iff_eq.2 (by omega), hide (by rw [if_pos (.inr k16)]; omega)⟩)
            · exact .inr (.inr ⟨beq_eq_false_iff_ne.2 (by omega), beq_eq_false_iff_ne.2 (by omega), hide (by rw [if_neg (by omega)]; omega)⟩)
        clear X EL EH ET
        rcases ways2 with ⟨y1, EE⟩ | ⟨y1, y2, EE⟩ | ⟨y1, y2, EE⟩
        all_goals
          go_wp2
          go_roundw
          case rel => exact ⟨k + 1, by omega, by go_num, by rw [← hsL.out, EE.out.1], by rw [← hsH.out, EE.out.2], SV, XT⟩
          case measure => simp [intOf]; omega
      · obtain rfl : k = 17 := by omega
        have g1 : decide (17 < G.length) = false := decide_eq_false (by omega)
        have sb17 := SB.out 17 (by omega)
        generalize smL m p q u d 17 = l0 at *
        generalize smH m p q u d 17 = h0 at *
        go_wp2_with fail
        refine (SA.out _).mono ?_
        rintro e w6 ⟨rfl, hb⟩
        replace X := hide (X.out.to hb)
        clear hr hb
        have hr := X.out.r5
        go_wp2_with fail
        refine (SD.out _).mono ?_
        rintro e w7 ⟨rfl, hb⟩
        replace X := hide (X.out.to hb)
        clear hr hb
        have hr := X.out.r5
        have XB := hide X.out.1
        go_wp2
        exact bodyPost_ret (v := .tuple #[.agg #[.int .i64 R.lo, .int .i64 R.hi], .int .i64 0]) (by simp [results, Tryz.results17, hr, go_sem]) rfl ⟨rfl, by have HX := XB.out; have hz := HX.size; go_grown⟩
theorem cotrench_any (m : Msh) (a : MshA) (p q : Pnt) (u d wd : Int) (w : World) (hm : MshSl w m a) (ht : Lib.TabIs Tryz.prog w "internal/strconv.uint64pow10" .u64 Lib.pow10Tab) : Calls Tryz.prog 17 #[m.val a, p.val, q.val, .int .i64 u, .int .i64 d, .int .i64 wd] w (RetW (.tuple #[(trR m p q u d wd).val, .int .i64 (trE m p q u d wd)]) w) := by
  by_cases hv : vM m = true
  case neg =>
    have hv : vM m = false := by simpa using hv
    have e : trE m p q u d wd = 1 := by simp [trE, gvE, hv]
    have e2 : trR m p q u d wd = Sp.zero := by simp [trR, e]
    rw [e, e2]
    exact cotrench_mesh m a p q u d wd w hm ht hv
  by_cases hp : inP p = true
  case neg =>
    have hp : inP p = false := by simpa using hp
    have e : trE m p q u d wd = 1 := by simp [trE, gvE, hp]
    have e2 : trR m p q u d wd = Sp.zero := by simp [trR, e]
    rw [e, e2]
    exact cotrench_p m a p q u d wd w hm ht hv hp
  by_cases hne : p = q
  · have e : trE m p q u d wd = 25 := by rw [← hne]; simp [trE, gvE, hv, hp]
    have e2 : trR m p q u d wd = Sp.zero := by simp [trR, e]
    rw [e, e2]
    exact cotrench_same m a p q u d wd w hm ht hv hp hne
  by_cases hq : inP q = true
  case neg =>
    have hq : inP q = false := by simpa using hq
    have e : trE m p q u d wd = 1 := by simp [trE, gvE, hq]
    have e2 : trR m p q u d wd = Sp.zero := by simp [trR, e]
    rw [e, e2]
    exact cotrench_q m a p q u d wd w hm ht hv hp hq
  by_cases hr : rngB u d wd = true
  case neg =>
    have hr : rngB u d wd = false := by simpa using hr
    have e : trE m p q u d wd = 2 := by simp [trE, gvE, hv, hp, hq, hne, hr]
    have e2 : trR m p q u d wd = Sp.zero := by simp [trR, e]
    rw [e, e2]
    exact cotrench_range m a p q u d wd w hm ht hv hp hq hne hr
  by_cases hl : allL m p q 17 = true
  case neg =>
    have hl : allL m p q 17 = false := by simpa using hl
    have e : trE m p q u d wd = 12 := by simp [trE, gvE, hv, hp, hq, hne, hr, hl]
    have e2 : trR m p q u d wd = Sp.zero := by simp [trR, e]
    rw [e, e2]
    exact cotrench_none m a p q u d wd w hm ht hv hp hq hne hr hl
  have e : trE m p q u d wd = 0 := by simp [trE, gvE, hv, hp, hq, hne, hr, hl]
  have e2 : trR m p q u d wd = trS m p q u d wd := by simp [trR, e]
  rw [e, e2]
  exact cotrench_ok m a p q u d wd w hm ht hv hp hq hne hr hl
end Go.Proofs.YtdcdfjinbieblaaGreatDoor

namespace Go.Proofs.YtdcdfjinbieblaaGreatDoor
open Go.RowKit

def letB (c : Int) : Bool := decide ((97 ≤ c ∧ c ≤ 122) ∨ (65 ≤ c ∧ c ≤ 90))
def digB (c : Int) : Bool := decide (48 ≤ c ∧ c ≤ 57)
def wdB (c : Int) : Bool := letB c || digB c || c == 95
/-- how many bytes at the beginning are those of a word -/
def wl (l : List UInt8) : Nat := (l.takeWhile fun b => wdB (b.toNat : Int)).length
/-- whether a list of bytes is a name -/
def nameB (l : List UInt8) : Bool :=
  match l with
  | [] => false
  | c :: r => decide (r.length + 1 ≤ 20) && letB (c.toNat : Int) && decide (wl (c :: r) = r.length + 1)
theorem wl_le (l : List UInt8) : wl l ≤ l.length := by unfold wl; exact (List.takeWhile_sublist _).length_le
theorem wl_nil : wl [] = 0 := rfl
theorem wl_cons (c : UInt8) (l : List UInt8) : wl (c :: l) = if wdB (c.toNat : Int) = true then wl l + 1 else 0 := by
  unfold wl
  by_cases h : wdB (c.toNat : Int) = true <;> simp [h]
theorem drop_byte (s : ByteArray) (k : Nat) (h : k < s.size) : s.data.toList.drop k = s[k] :: s.data.toList.drop (k + 1) := by
  rw [List.drop_eq_getElem_cons (by simpa using h)]; rfl
theorem wl_at (s : ByteArray) (k : Nat) (h : k < s.size) (hk : wl s.data.toList = k + wl (s.data.toList.drop k)) :
    if wdB (s[k].toNat : Int) = true then wl s.data.toList = k + 1 + wl (s.data.toList.drop (k + 1)) else wl s.data.toList = k := by
  rw [drop_byte s k h, wl_cons] at hk
  split <;> rename_i hw
  · rw [if_pos hw] at hk; omega
  · rw [if_neg hw] at hk; omega
theorem wl_end (s : ByteArray) (hk : wl s.data.toList = s.size + wl (s.data.toList.drop s.size)) : wl s.data.toList = s.size := by
  rw [List.drop_of_length_le (by simp), wl_nil] at hk; exact hk
theorem nameB_nil (s : ByteArray) (h : s.size = 0) : nameB s.data.toList = false := by
  have : s.data.toList = [] := by apply List.eq_nil_of_length_eq_zero; simpa using h
  rw [this]; rfl
theorem nameB_at (s : ByteArray) (h : 0 < s.size) : nameB s.data.toList = (decide (s.size ≤ 20) && letB (s[0].toNat : Int) && decide (wl s.data.toList = s.size)) := by
  have h0 := drop_byte s 0 h
  rw [List.drop_zero] at h0
  have hl : s.size = (s.data.toList.drop (0 + 1)).length + 1 := by simp; omega
  have e : nameB s.data.toList = nameB (s[0] :: s.data.toList.drop (0 + 1)) := by rw [← h0]
  rw [e]
  have hw : wl s.data.toList = wl (s[0] :: s.data.toList.drop (0 + 1)) := by rw [← h0]
  rw [hw, hl]
  rfl
theorem size_of_nameB (s : ByteArray) (h : nameB s.data.toList = true) : 0 < s.size ∧ s.size ≤ 20 := by
  by_cases h0 : s.size = 0
  · rw [nameB_nil s h0] at h; cases h
  · rw [nameB_at s (by omega)] at h
    simp only [Bool.and_eq_true, decide_eq_true_eq] at h
    omega
theorem byte_bd (c : UInt8) : 0 ≤ (c.toNat : Int) ∧ (c.toNat : Int) ≤ 255 := by have := c.toNat_lt; omega
end Go.Proofs.YtdcdfjinbieblaaGreatDoor

namespace Go.Proofs.YtdcdfjinbieblaaGreatDoor
open Go.RowKit

set_option maxHeartbeats 400000 in
theorem letter_any (c : Int) (w : World) : Calls Tryz.prog 110 #[.int .u8 c] w fun e w' => e = .returned (.bool (letB c)) ∧ w = w' := by
  by_cases h1 : 97 ≤ c <;> by_cases h2 : c ≤ 122 <;> by_cases h3 : 65 ≤ c <;> by_cases h4 : c ≤ 90
  all_goals
    go_enter Tryz.func110, Tryz.ntmps110
    go_wp2
    go_ret
    refine ⟨ret_bool ?_, rfl⟩
    simp [letB, h1, h2, h3, h4]
set_option maxHeartbeats 400000 in
theorem digit_any (c : Int) (w : World) : Calls Tryz.prog 143 #[.int .u8 c] w fun e w' => e = .returned (.bool (digB c)) ∧ w = w' := by
  by_cases h1 : 48 ≤ c <;> by_cases h2 : c ≤ 57
  all_goals
    go_enter Tryz.func143, Tryz.ntmps143
    go_wp2
    go_ret
    refine ⟨ret_bool ?_, rfl⟩
    simp [digB, h1, h2]
theorem wd_let {c : Int} (h : letB c = true) : wdB c = true := by simp [wdB, h]
theorem wd_dig {c : Int} (h2 : digB c = true) : wdB c = true := by simp [wdB, h2]
theorem wd_und {c : Int} (h : letB c = false) (h2 : digB c = false) : wdB c = (c == 95) := by simp [wdB, h, h2]

set_option maxHeartbeats 1000000 in
theorem word_any (s : ByteArray) (w : World) (hs : s.size ≤ maxLen) :
    Calls Tryz.prog 111 #[.string s] w fun e w' => e = .returned (.int .i64 (wl s.data.toList)) ∧ w = w' := by
  unfold maxLen at hs
  go_enter Tryz.func111, Tryz.ntmps111
  go_wp2
  go_loop [3] (fun i => ∃ k : Nat, k ≤ s.size ∧ i = .int .i64 k ∧ Hid (wl s.data.toList = k + wl (s.data.toList.drop k))) (fun i => s.size - (intOf i).toNat)
  case atStart => exact ⟨0, Nat.zero_le _, rfl, hide (by simp)⟩
  case round =>
    obtain ⟨k, hk, rfl, hw⟩ := hrel
    by_cases hlt : k < s.size
    · have hat := hide (wl_at s k hlt hw.out)
      have hbd := byte_bd s[k]
      by_cases h1 : letB (s[k].toNat : Int) = true
      · have h1' := hide (wd_let h1)
        go_wp2_with (first | (go_at_call 110; refine (letter_any _ _).mono ?_; rintro e w' ⟨rfl, rfl⟩))
        go_round
        case rel => exact ⟨k + 1, by omega, by go_num, hide (by have := hat.out; rw [if_pos h1'.out] at this; omega)⟩
        case measure => simp [intOf]; omega
      · have h1 : letB (s[k].toNat : Int) = false := by simpa using h1
        by_cases h2 : digB (s[k].toNat : Int) = true
        · have h1' := hide (wd_dig h2)
          go_wp2_with (first | (go_at_call 110; refine (letter_any _ _).mono ?_; rintro e w' ⟨rfl, rfl⟩) | (go_at_call 143; refine (digit_any _ _).mono ?_; rintro e w' ⟨rfl, rfl⟩))
          go_round
          case rel => exact ⟨k + 1, by omega, by go_num, hide (by have := hat.out; rw [if_pos h1'.out] at this; omega)⟩
          case measure => simp [intOf]; omega
        · have h2 : digB (s[k].toNat : Int) = false := by simpa using h2
          have h3' := hide (wd_und h1 h2)
          by_cases h3 : ((s[k].toNat : Int) == 95) = true
          · have h3'' := hide h3
            go_wp2_with (first | (go_at_call 110; refine (letter_any _ _).mono ?_; rintro e w' ⟨rfl, rfl⟩) | (go_at_call 143; refine (digit_any _ _).mono ?_; rintro e w' ⟨rfl, rfl⟩))
            go_round
            case rel => exact ⟨k + 1, by omega, by go_num, hide (by have := hat.out; rw [if_pos (h3'.out.trans h3''.out)] at this; omega)⟩
            case measure => simp [intOf]; omega
          · have h3 : ((s[k].toNat : Int) == 95) = false := by simpa using h3
            have h3'' := hide h3
            go_wp2_with (first | (go_at_call 110; refine (letter_any _ _).mono ?_; rintro e w' ⟨rfl, rfl⟩) | (go_at_call 143; refine (digit_any _ _).mono ?_; rintro e w' ⟨rfl, rfl⟩))
            go_ret
            refine ⟨ret_int ?_, rfl⟩
            have := hat.out
            rw [if_neg (by rw [h3'.out, h3''.out]; simp)] at this
            omega
    · have he : k = s.size := by omega
      have hq := hide (wl_end s (he ▸ hw.out))
      clear he
      go_wp2
      go_ret
      refine ⟨ret_int ?_, rfl⟩
      have := hq.out
      omega
theorem empty_of {s : ByteArray} (h : s.size = 0) : (!s.toList.isEmpty) = false := by
  rw [ByteArray.toList_eq]
  have : s.data.toList = [] := by apply List.eq_nil_of_length_eq_zero; simpa using h
  rw [this]; rfl
theorem full_of {s : ByteArray} (h : 0 < s.size) : (!s.toList.isEmpty) = true := by
  rw [ByteArray.toList_eq]
  cases e : s.data.toList with
  | nil =>
    have h2 : s.data.toList.length = s.size := Array.length_toList
    rw [e] at h2; simp at h2; omega
  | cons => rfl
set_option maxHeartbeats 1000000 in
theorem isname_any (s : ByteArray) (w : World) (hs : s.size ≤ maxLen) :
    Calls Tryz.prog 73 #[.string s] w fun e w' => e = .returned (.bool (nameB s.data.toList)) ∧ w = w' := by
  have hs' := hs
  unfold maxLen at hs
  by_cases h0 : s.size = 0
  · have hn := hide (nameB_nil s h0)
    have he' := empty_of h0
    go_enter Tryz.func73, Tryz.ntmps73
    go_wp2
    go_ret
    exact ⟨ret_bool hn.out.symm, rfl⟩
  · have hn := hide (nameB_at s (by omega))
    have hp : 0 < s.size := by omega
    have he := full_of hp
    by_cases h1 : s.size ≤ 20 <;> by_cases h2 : letB (s[0].toNat : Int) = true
    all_goals
      go_enter Tryz.func73, Tryz.ntmps73
      go_wp2_with (first | (go_at_call 110; refine (letter_any _ _).mono ?_; rintro e w' ⟨rfl, rfl⟩) | (go_at_call 111; refine (word_any _ _ hs').mono ?_; rintro e w' ⟨rfl, rfl⟩))
      go_ret
      refine ⟨ret_bool ?_, rfl⟩
      rw [hn.out]
      simp [h1, h2]
    rw [Bool.eq_iff_iff]; simp; omega
end Go.Proofs.YtdcdfjinbieblaaGreatDoor

namespace Go.Proofs.YtdcdfjinbieblaaGreatDoor
open Go Go.RowKit

structure Itm where
  nm : ByteArray
  am : Int
  pr : Int
abbrev Itm.val (x : Itm) : Value := .agg #[.string x.nm, .int .i64 x.am, .int .i64 x.pr]
def ItmAt (w : World) (b o : Nat) (x : Itm) : Prop := w.cell? ⟨b, o, none⟩ = some (.string x.nm) ∧ w.cell? ⟨b, o + 1, none⟩ = some (.int .i64 x.am) ∧ w.cell? ⟨b, o + 2, none⟩ = some (.int .i64 x.pr)
/-- a slice of items that reads as a list -/
def ItmSl (w : World) (A : Option Addr) (l : List Itm) : Prop :=
  (l.length ≤ maxLen ∧ ∀ i (h : i < l.length), l[i].nm.size ≤ maxLen) ∧ (0 < l.length → ∃ b off, A = some ⟨b, off, none⟩ ∧ b < w.heap.size ∧ ∀ i (h : i < l.length), ItmAt w b (off + i * 3) l[i])
theorem ItmSl.below {w w' : World} {A : Option Addr} {l : List Itm} (h : ItmSl w A l) (hb : Below w.heap.size w w') : ItmSl w' A l :=
  ⟨h.1, fun hl => by
    obtain ⟨b, off, e, hlt, hat⟩ := h.2 hl
    have k := fun (i : Nat) => hb.cell (p := ⟨b, i, none⟩) hlt
    exact ⟨b, off, e, Nat.lt_of_lt_of_le hlt hb.size, fun i hi => ⟨(k _).trans (hat i hi).1, (k _).trans (hat i hi).2.1, (k _).trans (hat i hi).2.2⟩⟩⟩
theorem ItmSl.nil (w : World) (A : Option Addr) : ItmSl w A [] := ⟨⟨by simp, fun i h => by simp at h⟩, fun h => by simp at h⟩
def idxM (p : Itm → Bool) (l : List Itm) : Int := match l.findIdx? p with | some i => (i : Int) | none => -1
theorem idxM_no {p : Itm → Bool} {l : List Itm} (h : ∀ i (hi : i < l.length), p l[i] = false) : idxM p l = -1 := by
  have : l.findIdx? p = none := by
    rw [List.findIdx?_eq_none_iff]
    intro x hx
    obtain ⟨i, hi, rfl⟩ := List.mem_iff_getElem.1 hx
    exact h i hi
  simp [idxM, this]
theorem idxM_yes {p : Itm → Bool} {l : List Itm} {k : Nat} (hk : k < l.length) (h : ∀ i (hi : i < l.length), i < k → p l[i] = false) (hy : p l[k] = true) : idxM p l = k := by
  have : l.findIdx? p = some k := by
    rw [List.findIdx?_eq_some_iff_getElem]
    exact ⟨hk, hy, fun j hj => by rw [h j (by omega) hj]; simp⟩
  simp [idxM, this]
theorem any_idxM (p : Itm → Bool) (l : List Itm) : l.any p = decide (0 ≤ idxM p l) := by
  unfold idxM
  cases h : l.findIdx? p with
  | none =>
    rw [List.findIdx?_eq_none_iff] at h
    rw [Bool.eq_iff_iff]
    simp only [List.any_eq_true, decide_eq_true_eq]
    constructor
    · rintro ⟨x, hx, hp⟩
      rw [h x hx] at hp
      cases hp
    · intro h'
      omega
  | some i =>
    rw [List.findIdx?_eq_some_iff_getElem] at h
    obtain ⟨hi, hp, _⟩ := h
    rw [Bool.eq_iff_iff]
    simp only [List.any_eq_true, decide_eq_true_eq]
    exact ⟨fun _ => by omega, fun _ => ⟨l[i], List.getElem_mem hi, hp⟩⟩
set_option maxRecDepth 100000 in
set_option maxHeartbeats 2000000 in
theorem idxM_any (f : Nat) (q : Itm → Bool) (hf : ∀ (d : Itm) (W : World), d.nm.size ≤ maxLen → Calls Tryz.prog f #[d.val] W (RetW (.bool (q d)) W)) (hc : ∀ (d : Itm) (w : World), (callFunc f #[d.val]).run Tryz.prog w = .ok (.enter f #[d.val]) w) (l : List Itm) (A : Option Addr) (cap : Nat) (w : World) (hl : ItmSl w A l) :
    Calls Tryz.prog 109 #[.slice A l.length cap, .func (.func f) #[] #[]] w (RetW (.int .i64 (idxM q l)) w) := by
  have hlen : l.length ≤ 9223372036854775807 := by have := hl.1.1; unfold maxLen at this; omega
  have H := hide hl
  have CK := hide hf
  unfold RetW at CK
  clear hl hf
  go_enter Tryz.func109, Tryz.ntmps109
  go_wp2
  go_loopw [8] (fun v8 wr => ∃ k : Nat, k ≤ l.length ∧ v8 = .int .i64 k ∧ Hid (Below w.heap.size w wr) ∧ Hid (∀ i (hi : i < l.length), i < k → q l[i] = false)) (fun v8 _ => l.length - (intOf v8).toNat)
  case atStart => exact ⟨0, Nat.zero_le _, rfl, hide (Below.refl _ _), hide (fun _ _ h => by omega)⟩
  case round =>
    obtain ⟨k, hk, rfl, HW, hno⟩ := hrel
    by_cases hlt : k < l.length
    · obtain ⟨b, off, rfl, hbl, hat⟩ := (H.out.below HW.out).2 (by omega)
      obtain ⟨c0, c1, c2⟩ := hat k hlt
      have CKk := hide (fun W => CK.out l[k] W (H.out.1.2 k hlt))
      clear hat
      by_cases hs : q l[k] = true
      · have E := hide (idxM_yes (p := q) hlt (fun i hi hik => hno.out i hi hik) hs)
        rw [hs] at CKk
        clear hs
        generalize l[k] = o at *
        go_wp2_with fail
        refine (CKk.out _).mono ?_
        rintro e w' ⟨rfl, hb⟩
        go_wp2
        go_ret
        exact ⟨ret_int E.out.symm, below_via HW.out HW.out.size hb⟩
      · have hs : q l[k] = false := by simpa using hs
        have hno2 := hide (fun i (hi : i < l.length) (hik : i < k + 1) => (show q l[i] = false by
          by_cases e : i = k
          · subst e; exact hs
          · exact hno.out i hi (by omega)))
        rw [hs] at CKk
        clear hs
        generalize l[k] = o at *
        go_wp2_with fail
        refine (CKk.out _).mono ?_
        rintro e w' ⟨rfl, hb⟩
        have HW2 := hide (below_via HW.out HW.out.size hb)
        clear hb
        go_wp2
        go_roundw
        case rel => exact ⟨k + 1, by omega, by go_num, HW2, hno2⟩
        case measure => simp [intOf]; omega
    · go_wp2
      go_ret
      exact ⟨ret_int (idxM_no fun i hi => hno.out i hi (by omega)).symm, HW.out⟩
set_option maxHeartbeats 1000000 in
theorem contM_any (f : Nat) (q : Itm → Bool) (hf : ∀ (d : Itm) (W : World), d.nm.size ≤ maxLen → Calls Tryz.prog f #[d.val] W (RetW (.bool (q d)) W)) (hc : ∀ (d : Itm) (w : World), (callFunc f #[d.val]).run Tryz.prog w = .ok (.enter f #[d.val]) w) (l : List Itm) (A : Option Addr) (cap : Nat) (w : World) (hl : ItmSl w A l) :
    Calls Tryz.prog 71 #[.slice A l.length cap, .func (.func f) #[] #[]] w (RetW (.bool (l.any q)) w) := by
  have C := hide (idxM_any f q hf hc l A cap w hl)
  have H := hide (any_idxM q l)
  unfold RetW at C
  clear hf hl
  go_enter Tryz.func71, Tryz.ntmps71
  go_wp2_with fail
  refine C.out.mono ?_
  rintro e w' ⟨rfl, hb⟩
  go_wp2
  go_ret
  exact ⟨ret_bool H.out.symm, hb⟩
def amB (n : Int) : Bool := decide (-1073741824 ≤ n) && decide (n ≤ 1073741824)
def prcB (n : Int) : Bool := decide (0 ≤ n) && decide (n ≤ 1073741824)
/-- an item is right -/
def itB (x : Itm) : Bool := nameB x.nm.data.toList && amB x.am && prcB x.pr
def vI (l : List Itm) : Bool := decide (l.length ≤ 1000) && l.all itB
set_option maxHeartbeats 2000000 in
theorem covalid1_any (x : Itm) (w : World) (h : x.nm.size ≤ maxLen) : Calls Tryz.prog 72 #[x.val] w (RetW (.bool (!itB x)) w) := by
  have NB := hide (fun W => isname_any x.nm W h)
  have B1 := hide (fun W => cobetween_any x.am (-1073741824) 1073741824 W)
  have B2 := hide (fun W => cobetween_any x.pr 0 1073741824 W)
  have E : Hid (itB x = (nameB x.nm.data.toList && (decide (-1073741824 ≤ x.am) && decide (x.am ≤ 1073741824)) && (decide (0 ≤ x.pr) && decide (x.pr ≤ 1073741824)))) := hide rfl
  have X := (Own.start w).alloc #[.string x.nm, .int .i64 x.am, .int .i64 x.pr] 43
  have hr := X.r1
  clear h
  generalize nameB x.nm.data.toList = b0 at *
  generalize (decide (-1073741824 ≤ x.am) && decide (x.am ≤ 1073741824)) = b1 at *
  generalize (decide (0 ≤ x.pr) && decide (x.pr ≤ 1073741824)) = b2 at *
  have ways : b0 = false ∨ (b0 = true ∧ b1 = false) ∨ (b0 = true ∧ b1 = true) := by cases b0 <;> cases b1 <;> simp
  rcases ways with rfl | ⟨rfl, rfl⟩ | ⟨rfl, rfl⟩
  · go_enter Tryz.func72, Tryz.ntmps72
    go_wp2_with fail
    refine (NB.out _).mono ?_
    rintro e w' ⟨rfl, rfl⟩
    go_wp2
    go_ret
    exact ⟨ret_bool (by rw [E.out]; rfl), X.1⟩
  · go_enter Tryz.func72, Tryz.ntmps72
    go_wp2_with fail
    refine (NB.out _).mono ?_
    rintro e w' ⟨rfl, rfl⟩
    go_wp2_with fail
    refine (B1.out _).mono ?_
    rintro e w' ⟨rfl, rfl⟩
    go_wp2
    go_ret
    exact ⟨ret_bool (by rw [E.out]; rfl), X.1⟩
  · go_enter Tryz.func72, Tryz.ntmps72
    go_wp2_with fail
    refine (NB.out _).mono ?_
    rintro e w' ⟨rfl, rfl⟩
    go_wp2_with fail
    refine (B1.out _).mono ?_
    rintro e w' ⟨rfl, rfl⟩
    go_wp2_with fail
    refine (B2.out _).mono ?_
    rintro e w' ⟨rfl, rfl⟩
    go_wp2
    go_ret
    exact ⟨ret_bool (by rw [E.out]; simp), X.1⟩
set_option maxHeartbeats 1000000 in
theorem covalid_any (l : List Itm) (A : Option Addr) (cap : Nat) (w : World) (hl : ItmSl w A l) : Calls Tryz.prog 38 #[.slice A l.length cap] w (RetW (.bool (vI l)) w) := by
  have C := hide (contM_any 72 (fun x => !itB x) covalid1_any (fun d w => enters_of Tryz.func72 (by kernel_rfl) rfl _ w) l A cap w hl)
  have E : Hid ((!(l.any fun x => !itB x)) = l.all itB) := hide (by rw [List.any_eq_not_all_not]; simp)
  have EV : Hid (vI l = (decide (l.length ≤ 1000) && l.all itB)) := hide rfl
  have hlen : l.length ≤ 9223372036854775807 := by have := hl.1.1; unfold maxLen at this; omega
  unfold RetW at C
  clear hl
  generalize (l.any fun x => !itB x) = b at *
  generalize l.all itB = b2 at *
  generalize vI l = v at *
  by_cases h : l.length ≤ 1000
  · have g : decide (l.length ≤ 1000) = true := decide_eq_true h
    go_enter Tryz.func38, Tryz.ntmps38
    go_wp2_with fail
    refine C.out.mono ?_
    rintro e w' ⟨rfl, hb⟩
    go_wp2
    go_ret
    exact ⟨ret_bool (by rw [EV.out, g, E.out]; rfl), hb⟩
  · have g : decide (l.length ≤ 1000) = false := decide_eq_false h
    go_enter Tryz.func38, Tryz.ntmps38
    go_wp2
    go_ret
    exact ⟨ret_bool (by rw [EV.out, g]; rfl), Below.refl _ _⟩
end Go.Proofs.YtdcdfjinbieblaaGreatDoor
