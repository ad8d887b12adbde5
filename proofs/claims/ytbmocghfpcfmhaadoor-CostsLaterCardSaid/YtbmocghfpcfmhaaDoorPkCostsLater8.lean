/- Parts of one proof, joined: Trench at any surface and line: the volume, or the error; nothing that was there is turned (printed by gen_trm.py). What a name is, said of lists of bytes: letters, digits, how many bytes at the beginning are those of a word. The program's IsName: it reports whether a string is a name, for every string; it leaves the world as it is. Items of bills in memory; slices.IndexFunc and slices.ContainsFunc at items; valid bills; nothing that was there is turned. Bills, said of integers: what a bill costs, the merged bill, the difference; costs add up. Present values and the cost of a bill: what Present and Bill return; nothing that was there is turned. The examples of chapter 48: awake returns true; nothing that was there is turned. -/
import Derived.Test.YtbmocghfpcfmhaaDoorPkCostsLater7
import Derived.Test.YtbmocghfpcfmhaaDoorPkCostsLater1
namespace Go.Proofs.YtbmocghfpcfmhaaDoor
open Go Go.RowKit

theorem sc16 {x : Int} {k : Nat} (h : -134217728 ≤ x * (k : Int) ∧ x * (k : Int) ≤ 134217728) : scE x (k : Int) 16 = 0 ∧ scLo x (k : Int) 16 = dn (x * (k : Int)) 16 ∧ scHi x (k : Int) 16 = up (x * (k : Int)) 16 := by
  have b := dn_rng (n := x * (k : Int)) (d := 16) (z := 8388608) (by omega) (by omega) (by omega)
  have b1 : i64B (dn (x * (k : Int)) 16) = true := i64B_iff.2 (by omega)
  have b2 : i64B (up (x * (k : Int)) 16) = true := i64B_iff.2 (by omega)
  refine ⟨?_, ?_, ?_⟩
  · unfold scE; rw [if_neg (by omega), if_pos ⟨b1, b2⟩]
  · unfold scLo; rw [if_pos ⟨by omega, b1, b2⟩]
  · unfold scHi; rw [if_pos ⟨by omega, b1, b2⟩]
theorem scW {x y : Int} (h : 0 ≤ x ∧ x ≤ 570425344) (h' : 0 ≤ y ∧ y ≤ 671088640000) : scE x y 32000 = 0 ∧ scLo x y 32000 = dn (x * y) 32000 ∧ scHi x y 32000 = up (x * y) 32000 := by
  have p0 : 0 ≤ x * y := Int.mul_nonneg h.1 h'.1
  have p1 : x * y ≤ 570425344 * 671088640000 := Int.mul_le_mul h.2 h'.2 h'.1 (by omega)
  have b := dn_rng (n := x * y) (d := 32000) (z := 11962686510202880) (by omega) (by omega) (by omega)
  have b1 : i64B (dn (x * y) 32000) = true := i64B_iff.2 (by omega)
  have b2 : i64B (up (x * y) 32000) = true := i64B_iff.2 (by omega)
  refine ⟨?_, ?_, ?_⟩
  · unfold scE; rw [if_neg (by omega), if_pos ⟨b1, b2⟩]
  · unfold scLo; rw [if_pos ⟨by omega, b1, b2⟩]
  · unfold scHi; rw [if_pos ⟨by omega, b1, b2⟩]
set_option maxRecDepth 100000 in
set_option maxHeartbeats 8000000 in
theorem cotrench_none (m : Msh) (a : MshA) (p q : Pnt) (u d wd : Int) (w : World) (hm : MshSl w m a) (ht : Lib.TabIs Tryd.prog w "internal/strconv.uint64pow10" .u64 Lib.pow10Tab) (hv : vM m = true) (hp : inP p = true) (hq : inP q = true) (hne : p ≠ q) (hr0 : rngB u d wd = true) (hl : allL m p q 17 = false) : Calls Tryd.prog 7 #[m.val a, p.val, q.val, .int .i64 u, .int .i64 d, .int .i64 wd] w (ErrP 12 w) := by
  have P1 := hide (fun W => plvalid_any p W)
  have P2 := hide (fun W => plvalid_any q W)
  have B1 := hide (fun W => cobetween_any u (-4194304) 4194304 W)
  have B2 := hide (fun W => cobetween_any d (-4194304) 4194304 W)
  have B3 := hide (fun W => cobetween_any wd 1 10000 W)
  have LV := hide (fun W h h' => tsLevels_any m a p q W h h' hv (inP_iff.1 hp) (inP_iff.1 hq) hne)
  have DI := hide (fun W => pldist_any p q W (inP_iff.1 hp) (inP_iff.1 hq))
  rw [hp] at P1
  rw [hq] at P2
  obtain ⟨ru, rd, rw1, rw2⟩ := rngB_iff.1 hr0
  have cb : ((decide (-4194304 ≤ u) && decide (u ≤ 4194304)) = true ∧ (decide (-4194304 ≤ d) && decide (d ≤ 4194304)) = true ∧ (decide (1 ≤ wd) && decide (wd ≤ 10000)) = true) := by
    simp only [Bool.and_eq_true, decide_eq_true_eq]; omega
  rw [cb.1] at B1
  rw [cb.2.1] at B2
  rw [cb.2.2] at B3
  unfold RetW at P1 P2 DI
  have ways : (p.x == q.x) = false ∨ ((p.x == q.x) = true ∧ (p.y == q.y) = false) := by
    cases h1 : (p.x == q.x) <;> cases h2 : (p.y == q.y) <;> simp_all
    exact hne (by cases p; cases q; simp_all)
  have E12 : lvE m p q = 12 := by simp [lvE, hl]
  rw [E12] at LV
  have MV := hide (fun W h h' => msvalid_any m a W h h')
  rw [hv] at MV
  unfold RetW at MV
  have HM := hide hm
  have HT := hide ht
  obtain ⟨A1, c1, A2, c2⟩ := a
  have X := ((((Own.start w).alloc #[.slice A1 m.ss.length c1, .slice A2 m.fs.length c2] 41).alloc #[.int .i64 p.x, .int .i64 p.y] 44).alloc #[.int .i64 q.x, .int .i64 q.y] 44).alloc #[.int .i64 0, .int .i64 0] 24
  simp only [World.size_alloc] at X
  have hr := X.r4
  clear hm ht hv hp hq hne hr0 hl cb E12 ru rd rw1 rw2 DI
  rcases ways with q1 | ⟨q1, q2⟩
  all_goals
    go_enter Tryd.func7, Tryd.ntmps7
    go_wp2_with fail
    refine (MV.out _ (HM.out.below X.1) (tab_below HT.out X.1)).mono ?_
    rintro e w1 ⟨rfl, hb⟩
    replace X := X.to hb
    clear hr hb
    have hr := X.r4
    go_wp2_with fail
    refine (P1.out _).mono ?_
    rintro e w2 ⟨rfl, hb⟩
    replace X := X.to hb
    clear hr hb
    have hr := X.r4
    go_wp2_with fail
    refine (P2.out _).mono ?_
    rintro e w3 ⟨rfl, hb⟩
    replace X := X.to hb
    clear hr hb
    have hr := X.r4
    go_wp2_with fail
    refine (B1.out _).mono ?_
    rintro e w' ⟨rfl, rfl⟩
    go_wp2_with fail
    refine (B2.out _).mono ?_
    rintro e w' ⟨rfl, rfl⟩
    go_wp2_with fail
    refine (B3.out _).mono ?_
    rintro e w' ⟨rfl, rfl⟩
    go_wp2_with fail
    refine (LV.out _ (HM.out.below X.1) (tab_below HT.out X.1)).mono ?_
    rintro e w4 ⟨hb, A, n, cap, rfl, hS⟩
    have XB4 := hide X.1
    replace X := X.to hb
    clear hr hb
    have hr := X.r4
    clear hS
    have XB := hide X.1
    go_wp2
    exact bodyPost_ret (v := .tuple #[.agg #[.int .i64 0, .int .i64 0], .int .i64 12]) (by simp [results, Tryd.results7, hr, go_sem]) rfl ⟨rfl, by have HX := XB.out; have hz := HX.size; go_grown⟩
set_option maxRecDepth 100000 in
set_option maxHeartbeats 16000000 in
theorem cotrench_ok (m : Msh) (a : MshA) (p q : Pnt) (u d wd : Int) (w : World) (hm : MshSl w m a) (ht : Lib.TabIs Tryd.prog w "internal/strconv.uint64pow10" .u64 Lib.pow10Tab) (hv : vM m = true) (hp : inP p = true) (hq : inP q = true) (hne : p ≠ q) (hr0 : rngB u d wd = true) (hl : allL m p q 17 = true) : Calls Tryd.prog 7 #[m.val a, p.val, q.val, .int .i64 u, .int .i64 d, .int .i64 wd] w (RetW (.tuple #[(trS m p q u d wd).val, .int .i64 0]) w) := by
  have P1 := hide (fun W => plvalid_any p W)
  have P2 := hide (fun W => plvalid_any q W)
  have B1 := hide (fun W => cobetween_any u (-4194304) 4194304 W)
  have B2 := hide (fun W => cobetween_any d (-4194304) 4194304 W)
  have B3 := hide (fun W => cobetween_any wd 1 10000 W)
  have LV := hide (fun W h h' => tsLevels_any m a p q W h h' hv (inP_iff.1 hp) (inP_iff.1 hq) hne)
  have DI := hide (fun W => pldist_any p q W (inP_iff.1 hp) (inP_iff.1 hq))
  rw [hp] at P1
  rw [hq] at P2
  obtain ⟨ru, rd, rw1, rw2⟩ := rngB_iff.1 hr0
  have cb : ((decide (-4194304 ≤ u) && decide (u ≤ 4194304)) = true ∧ (decide (-4194304 ≤ d) && decide (d ≤ 4194304)) = true ∧ (decide (1 ≤ wd) && decide (wd ≤ 10000)) = true) := by
    simp only [Bool.and_eq_true, decide_eq_true_eq]; omega
  rw [cb.1] at B1
  rw [cb.2.1] at B2
  rw [cb.2.2] at B3
  unfold RetW at P1 P2 DI
  have ways : (p.x == q.x) = false ∨ ((p.x == q.x) = true ∧ (p.y == q.y) = false) := by
    cases h1 : (p.x == q.x) <;> cases h2 : (p.y == q.y) <;> simp_all
    exact hne (by cases p; cases q; simp_all)
  have E0 : lvE m p q = 0 := by simp [lvE, hl]
  rw [E0] at LV
  have ip := inP_iff.1 hp
  have iq := inP_iff.1 hq
  obtain ⟨D1, D2, D3⟩ := dsS_bd ip iq
  have SB := hide (fun k (hk : k ≤ 17) => sm_bd hv ru rd hl k hk hk)
  have GB := hide (fun k (hk : k < 17) => lvG_bd hv hl hk)
  have PB := hide (fun k (hk : k ≤ 16) => pip_bd ru rd hk)
  have SC := hide (fun k (hk : k ≤ 16) => sc16 (x := d - u) (k := k) (pip_bd ru rd hk).1)
  have SCC := hide (fun (k : Nat) (W : World) => fun (hk : k ≤ 16) => scale_full (d - u) (k : Int) 16 W (by omega) (by omega) (by omega) (by omega) (by omega) (by omega) (by omega))
  have TS := hide (trS_lo m p q u d wd)
  have TH := hide (trS_hi m p q u d wd)
  obtain ⟨x1, hx1⟩ : ∃ x1, x1 = (dsS p q).lo * wd := ⟨_, rfl⟩
  obtain ⟨x2, hx2⟩ : ∃ x2, x2 = (dsS p q).hi * wd := ⟨_, rfl⟩
  rw [← hx1] at TS
  rw [← hx2] at TH
  have bx1 : 0 ≤ x1 ∧ x1 ≤ 671088640000 := by
    rw [hx1]
    exact ⟨Int.mul_nonneg D1 (by omega), Int.le_trans (Int.mul_le_mul (by omega : (dsS p q).lo ≤ 67108864) rw2 (by omega) (by omega)) (by omega)⟩
  have bx2 : 0 ≤ x2 ∧ x2 ≤ 671088640000 := by
    rw [hx2]
    exact ⟨Int.mul_nonneg (by omega) (by omega), Int.le_trans (Int.mul_le_mul D3 rw2 (by omega) (by omega)) (by omega)⟩
  have wx1 : IntKind.i64.wrap ((dsS p q).lo * wd) = x1 := by rw [← hx1]; exact IntWalk.i64_in _ (by omega)
  have wx2 : IntKind.i64.wrap ((dsS p q).hi * wd) = x2 := by rw [← hx2]; exact IntWalk.i64_in _ (by omega)
  have S17 := SB.out 17 (by omega)
  have Z1 := scW (x := smL m p q u d 17) (y := x1) ⟨S17.1, by omega⟩ bx1
  have Z2 := scW (x := smH m p q u d 17) (y := x2) ⟨by omega, by omega⟩ bx2
  have SA := hide (fun W => scale_full (smL m p q u d 17) x1 32000 W (by omega) (by omega) (by omega) (by omega) (by omega) (by omega) (by omega))
  have SD := hide (fun W => scale_full (smH m p q u d 17) x2 32000 W (by omega) (by omega) (by omega) (by omega) (by omega) (by omega) (by omega))
  rw [Z1.1, Z1.2.1, Z1.2.2] at SA
  rw [Z2.1, Z2.2.1, Z2.2.2] at SD
  rw [← TS.out] at SA
  rw [← TH.out] at SD
  have wdu := IntWalk.i64_in (d - u) (by omega)
  have MV := hide (fun W h h' => msvalid_any m a W h h')
  rw [hv] at MV
  unfold RetW at MV
  have HM := hide hm
  have HT := hide ht
  obtain ⟨A1, c1, A2, c2⟩ := a
  have X := ((((Own.start w).alloc #[.slice A1 m.ss.length c1, .slice A2 m.fs.length c2] 41).alloc #[.int .i64 p.x, .int .i64 p.y] 44).alloc #[.int .i64 q.x, .int .i64 q.y] 44).alloc #[.int .i64 0, .int .i64 0] 24
  simp only [World.size_alloc] at X
  have hr := X.r4
  clear hm ht hv hp hq hne hr0 hl cb E0 ip iq D1 D2 D3 hx1 hx2 bx1 bx2 S17 Z1 Z2 TS TH
  generalize trS m p q u d wd = R at *
  generalize up (smL m p q u d 17 * x1) 32000 = j1 at *
  generalize dn (smH m p q u d 17 * x2) 32000 = j2 at *
  generalize dsS p q = ds at *
  rcases ways with q1 | ⟨q1, q2⟩
  all_goals
    go_enter Tryd.func7, Tryd.ntmps7
    go_wp2_with fail
    refine (MV.out _ (HM.out.below X.1) (tab_below HT.out X.1)).mono ?_
    rintro e w1 ⟨rfl, hb⟩
    replace X := X.to hb
    clear hr hb
    have hr := X.r4
    go_wp2_with fail
    refine (P1.out _).mono ?_
    rintro e w2 ⟨rfl, hb⟩
    replace X := X.to hb
    clear hr hb
    have hr := X.r4
    go_wp2_with fail
    refine (P2.out _).mono ?_
    rintro e w3 ⟨rfl, hb⟩
    replace X := X.to hb
    clear hr hb
    have hr := X.r4
    go_wp2_with fail
    refine (B1.out _).mono ?_
    rintro e w' ⟨rfl, rfl⟩
    go_wp2_with fail
    refine (B2.out _).mono ?_
    rintro e w' ⟨rfl, rfl⟩
    go_wp2_with fail
    refine (B3.out _).mono ?_
    rintro e w' ⟨rfl, rfl⟩
    go_wp2_with fail
    refine (LV.out _ (HM.out.below X.1) (tab_below HT.out X.1)).mono ?_
    rintro e w4 ⟨hb, A, n, cap, rfl, hS⟩
    have XB4 := hide X.1
    replace X := X.to hb
    clear hr hb
    have hr := X.r4
    obtain ⟨rfl, SL⟩ := hS rfl
    have lG := lvL_len m p q 17
    have IG := hide (fun k (hk : k < 17) => (show (lvL m p q 17)[k]? = some (lvG m p q k) by simp [lvL, hk]))
    clear hS
    generalize lvL m p q 17 = G at *
    go_wp2_with fail
    refine (DI.out _).mono ?_
    rintro e w5 ⟨rfl, hb⟩
    have SL5 := hide (SL.below hb)
    replace X := hide ((X.to hb).alloc #[.int .i64 ds.lo, .int .i64 ds.hi] 24)
    clear hr hb SL
    have hr := X.out.r5
    go_wp2
    go_loopw [17, 18, 87] (fun v17 v18 v87 wr => ∃ k : Nat, k ≤ 17 ∧ v87 = .int .i64 (k : Int) ∧ v17 = .int .i64 (smL m p q u d k) ∧ v18 = .int .i64 (smH m p q u d k) ∧ Hid (SpnSl wr A G) ∧
      Hid (Own w wr [(w5.heap.size, 24, #[.int .i64 ds.lo, .int .i64 ds.hi]), (w.heap.size + 1 + 1 + 1, 24, #[.int .i64 0, .int .i64 0]), (w.heap.size + 1 + 1, 44, #[.int .i64 q.x, .int .i64 q.y]), (w.heap.size + 1, 44, #[.int .i64 p.x, .int .i64 p.y]), (w.heap.size, 41, #[.slice A1 m.ss.length c1, .slice A2 m.fs.length c2])])) (fun _ _ v _ => 17 - (intOf v).toNat)
    case atStart => exact ⟨0, by omega, rfl, rfl, rfl, hide (SL5.out.below ((Below.refl _ _).alloc (Nat.le_refl _) _)), X⟩
    case round =>
      clear X hr
      obtain ⟨k, hk, rfl, rfl, rfl, SW, X⟩ := hrel
      have hr := X.out.r5
      by_cases hlt : k < 17
      · have g1 : decide (k < G.length) = true := decide_eq_true (by omega)
        have g2 : (0 : Int) ≤ (k : Int) := by omega
        have g3 : (k : Int) < (G.length : Int) := by omega
        obtain ⟨b, off, rfl, hbl, hat⟩ := SW.out.2 (by omega)
        obtain ⟨d0, d1⟩ := hat k (by omega)
        have eG : G[k]'(by omega) = lvG m p q k := by
          have := IG.out k hlt
          rw [List.getElem?_eq_getElem (by omega)] at this
          exact Option.some.inj this
        rw [eG] at d0 d1
        have gb := GB.out k hlt
        obtain ⟨_, pb1, pb2, _⟩ := PB.out k (by omega)
        have sbk := SB.out k (by omega)
        have sbn := SB.out (k + 1) (by omega)
        have SK := hide (fun W => SCC.out k W (by omega))
        obtain ⟨z1, z2, z3⟩ := SC.out k (by omega)
        rw [z1, z2, z3] at SK
        rw [show dn ((d - u) * (k : Int)) 16 = pLo u d k from rfl, show up ((d - u) * (k : Int)) 16 = pHi u d k from rfl] at SK
        have EL : Hid (smL m p q u d (k + 1) = smL m p q u d k + tms k * max 0 ((lvG m p q k).lo - u - pHi u d k)) := hide rfl
        have EH : Hid (smH m p q u d (k + 1) = smH m p q u d k + tms k * max 0 ((lvG m p q k).hi - u - pLo u d k)) := hide rfl
        have ET : Hid (tms k = if k = 0 ∨ k = 16 then 1 else 2) := hide rfl
        clear hat eG z1 z2 z3
        obtain ⟨sL, hsL⟩ : ∃ x, x = smL m p q u d (k + 1) := ⟨_, rfl⟩
        obtain ⟨sH, hsH⟩ : ∃ x, x = smH m p q u d (k + 1) := ⟨_, rfl⟩
        rw [← hsL] at EL sbn
        rw [← hsH] at EH sbn
        replace hsL := hide hsL
        replace hsH := hide hsH
        generalize smL m p q u d k = l0 at *
        generalize smH m p q u d k = h0 at *
        generalize lvG m p q k = s at *
        generalize pLo u d k = plo at *
        generalize pHi u d k = phi at *
        have a1 := IntWalk.i64_in (s.lo - u) (by omega)
        have a2 := IntWalk.i64_in (s.lo - u - phi) (by omega)
        have a3 := IntWalk.i64_in (s.hi - u) (by omega)
        have a4 := IntWalk.i64_in (s.hi - u - plo) (by omega)
        have nb : ¬ b = wr.heap.size := by omega
        have nw := hr.2.2.2.2.2.2
        go_wp2_with fail
        refine (SK.out _).mono ?_
        rintro e w6 ⟨rfl, hb⟩
        have SV := hide (SW.out.below (((Below.refl _ wr).alloc (Nat.le_refl _) (.cells #[.int .i64 s.lo, .int .i64 s.hi] 24)).trans (hb.mono (by simp))))
        replace X := hide ((X.out.alloc #[.int .i64 s.lo, .int .i64 s.hi] 24).to hb)
        clear hr hb SW
        have hr := X.out.r6
        have XT := hide X.out.tail
        have ways2 : (((k : Int) == 0) = true ∧ Hid (sL = l0 + max 0 (s.lo - u - phi) ∧ sH = h0 + max 0 (s.hi - u - plo))) ∨ (((k : Int) == 0) = false ∧ ((k : Int) == 16) = true ∧ Hid (sL = l0 + max 0 (s.lo - u - phi) ∧ sH = h0 + max 0 (s.hi - u - plo))) ∨
            (((k : Int) == 0) = false ∧ ((k : Int) == 16) = false ∧ Hid (sL = l0 + 2 * max 0 (s.lo - u - phi) ∧ sH = h0 + 2 * max 0 (s.hi - u - plo))) := by
          rw [EL.out, EH.out, ET.out]
          by_cases k0 : k = 0
          · exact .inl ⟨beq_iff_eq.2 (by omega), hide (by rw [if_pos (.inl k0)]; omega)⟩
          · by_cases k16 : k = 16
            · exact .inr (.inl ⟨beq_eq_false_iff_ne.2 (by omega), beq_iff_eq.2 (by omega), hide (by rw [if_pos (.inr k16)]; omega)⟩)
            · exact .inr (.inr ⟨beq_eq_false_iff_ne.2 (by omega), beq_eq_false_iff_ne.2 (by omega), hide (by rw [if_neg (by omega)]; omega)⟩)
        clear X EL EH ET
        rcases ways2 with ⟨y1, EE⟩ | ⟨y1, y2, EE⟩ | ⟨y1, y2, EE⟩
        all_goals
          go_wp2
          go_roundw
          case rel => exact ⟨k + 1, by omega, by go_num, by rw [← hsL.out, EE.out.1], by rw [← hsH.out, EE.out.2], SV, XT⟩
          case measure => simp [intOf]; omega
      · obtain rfl : k = 17 := by omega
        have g1 : decide (17 < G.length) = false := decide_eq_false (by omega)
        have sb17 := SB.out 17 (by omega)
        generalize smL m p q u d 17 = l0 at *
        generalize smH m p q u d 17 = h0 at *
        go_wp2_with fail
        refine (SA.out _).mono ?_
        rintro e w6 ⟨rfl, hb⟩
        replace X := hide (X.out.to hb)
        clear hr hb
        have hr := X.out.r5
        go_wp2_with fail
        refine (SD.out _).mono ?_
        rintro e w7 ⟨rfl, hb⟩
        replace X := hide (X.out.to hb)
        clear hr hb
        have hr := X.out.r5
        have XB := hide X.out.1
        go_wp2
        exact bodyPost_ret (v := .tuple #[.agg #[.int .i64 R.lo, .int .i64 R.hi], .int .i64 0]) (by simp [results, Tryd.results7, hr, go_sem]) rfl ⟨rfl, by have HX := XB.out; have hz := HX.size; go_grown⟩
theorem cotrench_any (m : Msh) (a : MshA) (p q : Pnt) (u d wd : Int) (w : World) (hm : MshSl w m a) (ht : Lib.TabIs Tryd.prog w "internal/strconv.uint64pow10" .u64 Lib.pow10Tab) : Calls Tryd.prog 7 #[m.val a, p.val, q.val, .int .i64 u, .int .i64 d, .int .i64 wd] w (RetW (.tuple #[(trR m p q u d wd).val, .int .i64 (trE m p q u d wd)]) w) := by
  by_cases hv : vM m = true
  case neg =>
    have hv : vM m = false := by simpa using hv
    have e : trE m p q u d wd = 1 := by simp [trE, gvE, hv]
    have e2 : trR m p q u d wd = Sp.zero := by simp [trR, e]
    rw [e, e2]
    exact cotrench_mesh m a p q u d wd w hm ht hv
  by_cases hp : inP p = true
  case neg =>
    have hp : inP p = false := by simpa using hp
    have e : trE m p q u d wd = 1 := by simp [trE, gvE, hp]
    have e2 : trR m p q u d wd = Sp.zero := by simp [trR, e]
    rw [e, e2]
    exact cotrench_p m a p q u d wd w hm ht hv hp
  by_cases hne : p = q
  · have e : trE m p q u d wd = 25 := by rw [← hne]; simp [trE, gvE, hv, hp]
    have e2 : trR m p q u d wd = Sp.zero := by simp [trR, e]
    rw [e, e2]
    exact cotrench_same m a p q u d wd w hm ht hv hp hne
  by_cases hq : inP q = true
  case neg =>
    have hq : inP q = false := by simpa using hq
    have e : trE m p q u d wd = 1 := by simp [trE, gvE, hq]
    have e2 : trR m p q u d wd = Sp.zero := by simp [trR, e]
    rw [e, e2]
    exact cotrench_q m a p q u d wd w hm ht hv hp hq
  by_cases hr : rngB u d wd = true
  case neg =>
    have hr : rngB u d wd = false := by simpa using hr
    have e : trE m p q u d wd = 2 := by simp [trE, gvE, hv, hp, hq, hne, hr]
    have e2 : trR m p q u d wd = Sp.zero := by simp [trR, e]
    rw [e, e2]
    exact cotrench_range m a p q u d wd w hm ht hv hp hq hne hr
  by_cases hl : allL m p q 17 = true
  case neg =>
    have hl : allL m p q 17 = false := by simpa using hl
    have e : trE m p q u d wd = 12 := by simp [trE, gvE, hv, hp, hq, hne, hr, hl]
    have e2 : trR m p q u d wd = Sp.zero := by simp [trR, e]
    rw [e, e2]
    exact cotrench_none m a p q u d wd w hm ht hv hp hq hne hr hl
  have e : trE m p q u d wd = 0 := by simp [trE, gvE, hv, hp, hq, hne, hr, hl]
  have e2 : trR m p q u d wd = trS m p q u d wd := by simp [trR, e]
  rw [e, e2]
  exact cotrench_ok m a p q u d wd w hm ht hv hp hq hne hr hl
end Go.Proofs.YtbmocghfpcfmhaaDoor

namespace Go.Proofs.YtbmocghfpcfmhaaDoor
open Go.RowKit

def letB (c : Int) : Bool := decide ((97 ≤ c ∧ c ≤ 122) ∨ (65 ≤ c ∧ c ≤ 90))
def digB (c : Int) : Bool := decide (48 ≤ c ∧ c ≤ 57)
def wdB (c : Int) : Bool := letB c || digB c || c == 95
/-- how many bytes at the beginning are those of a word -/
def wl (l : List UInt8) : Nat := (l.takeWhile fun b => wdB (b.toNat : Int)).length
/-- whether a list of bytes is a name -/
def nameB (l : List UInt8) : Bool :=
  match l with
  | [] => false
  | c :: r => decide (r.length + 1 ≤ 20) && letB (c.toNat : Int) && decide (wl (c :: r) = r.length + 1)
theorem wl_le (l : List UInt8) : wl l ≤ l.length := by unfold wl; exact (List.takeWhile_sublist _).length_le
theorem wl_nil : wl [] = 0 := rfl
theorem wl_cons (c : UInt8) (l : List UInt8) : wl (c :: l) = if wdB (c.toNat : Int) = true then wl l + 1 else 0 := by
  unfold wl
  by_cases h : wdB (c.toNat : Int) = true <;> simp [h]
theorem drop_byte (s : ByteArray) (k : Nat) (h : k < s.size) : s.data.toList.drop k = s[k] :: s.data.toList.drop (k + 1) := by
  rw [List.drop_eq_getElem_cons (by simpa using h)]; rfl
theorem wl_at (s : ByteArray) (k : Nat) (h : k < s.size) (hk : wl s.data.toList = k + wl (s.data.toList.drop k)) :
    if wdB (s[k].toNat : Int) = true then wl s.data.toList = k + 1 + wl (s.data.toList.drop (k + 1)) else wl s.data.toList = k := by
  rw [drop_byte s k h, wl_cons] at hk
  split <;> rename_i hw
  · rw [if_pos hw] at hk; omega
  · rw [if_neg hw] at hk; omega
theorem wl_end (s : ByteArray) (hk : wl s.data.toList = s.size + wl (s.data.toList.drop s.size)) : wl s.data.toList = s.size := by
  rw [List.drop_of_length_le (by simp), wl_nil] at hk; exact hk
theorem nameB_nil (s : ByteArray) (h : s.size = 0) : nameB s.data.toList = false := by
  have : s.data.toList = [] := by apply List.eq_nil_of_length_eq_zero; simpa using h
  rw [this]; rfl
theorem nameB_at (s : ByteArray) (h : 0 < s.size) : nameB s.data.toList = (decide (s.size ≤ 20) && letB (s[0].toNat : Int) && decide (wl s.data.toList = s.size)) := by
  have h0 := drop_byte s 0 h
  rw [List.drop_zero] at h0
  have hl : s.size = (s.data.toList.drop (0 + 1)).length + 1 := by simp; omega
  have e : nameB s.data.toList = nameB (s[0] :: s.data.toList.drop (0 + 1)) := by rw [← h0]
  rw [e]
  have hw : wl s.data.toList = wl (s[0] :: s.data.toList.drop (0 + 1)) := by rw [← h0]
  rw [hw, hl]
  rfl
theorem size_of_nameB (s : ByteArray) (h : nameB s.data.toList = true) : 0 < s.size ∧ s.size ≤ 20 := by
  by_cases h0 : s.size = 0
  · rw [nameB_nil s h0] at h; cases h
  · rw [nameB_at s (by omega)] at h
    simp only [Bool.and_eq_true, decide_eq_true_eq] at h
    omega
theorem byte_bd (c : UInt8) : 0 ≤ (c.toNat : Int) ∧ (c.toNat : Int) ≤ 255 := by have := c.toNat_lt; omega
end Go.Proofs.YtbmocghfpcfmhaaDoor

namespace Go.Proofs.YtbmocghfpcfmhaaDoor
open Go.RowKit

set_option maxHeartbeats 400000 in
theorem letter_any (c : Int) (w : World) : Calls Tryd.prog 40 #[.int .u8 c] w fun e w' => e = .returned (.bool (letB c)) ∧ w = w' := by
  by_cases h1 : 97 ≤ c <;> by_cases h2 : c ≤ 122 <;> by_cases h3 : 65 ≤ c <;> by_cases h4 : c ≤ 90
  all_goals
    go_enter Tryd.func40, Tryd.ntmps40
    go_wp2
    go_ret
    refine ⟨ret_bool ?_, rfl⟩
    simp [letB, h1, h2, h3, h4]
set_option maxHeartbeats 400000 in
theorem digit_any (c : Int) (w : World) : Calls Tryd.prog 64 #[.int .u8 c] w fun e w' => e = .returned (.bool (digB c)) ∧ w = w' := by
  by_cases h1 : 48 ≤ c <;> by_cases h2 : c ≤ 57
  all_goals
    go_enter Tryd.func64, Tryd.ntmps64
    go_wp2
    go_ret
    refine ⟨ret_bool ?_, rfl⟩
    simp [digB, h1, h2]
theorem wd_let {c : Int} (h : letB c = true) : wdB c = true := by simp [wdB, h]
theorem wd_dig {c : Int} (h2 : digB c = true) : wdB c = true := by simp [wdB, h2]
theorem wd_und {c : Int} (h : letB c = false) (h2 : digB c = false) : wdB c = (c == 95) := by simp [wdB, h, h2]

set_option maxHeartbeats 1000000 in
theorem word_any (s : ByteArray) (w : World) (hs : s.size ≤ maxLen) :
    Calls Tryd.prog 41 #[.string s] w fun e w' => e = .returned (.int .i64 (wl s.data.toList)) ∧ w = w' := by
  unfold maxLen at hs
  go_enter Tryd.func41, Tryd.ntmps41
  go_wp2
  go_loop [3] (fun i => ∃ k : Nat, k ≤ s.size ∧ i = .int .i64 k ∧ Hid (wl s.data.toList = k + wl (s.data.toList.drop k))) (fun i => s.size - (intOf i).toNat)
  case atStart => exact ⟨0, Nat.zero_le _, rfl, hide (by simp)⟩
  case round =>
    obtain ⟨k, hk, rfl, hw⟩ := hrel
    by_cases hlt : k < s.size
    · have hat := hide (wl_at s k hlt hw.out)
      have hbd := byte_bd s[k]
      by_cases h1 : letB (s[k].toNat : Int) = true
      · have h1' := hide (wd_let h1)
        go_wp2_with (first | (go_at_call 40; refine (letter_any _ _).mono ?_; rintro e w' ⟨rfl, rfl⟩))
        go_round
        case rel => exact ⟨k + 1, by omega, by go_num, hide (by have := hat.out; rw [if_pos h1'.out] at this; omega)⟩
        case measure => simp [intOf]; omega
      · have h1 : letB (s[k].toNat : Int) = false := by simpa using h1
        by_cases h2 : digB (s[k].toNat : Int) = true
        · have h1' := hide (wd_dig h2)
          go_wp2_with (first | (go_at_call 40; refine (letter_any _ _).mono ?_; rintro e w' ⟨rfl, rfl⟩) | (go_at_call 64; refine (digit_any _ _).mono ?_; rintro e w' ⟨rfl, rfl⟩))
          go_round
          case rel => exact ⟨k + 1, by omega, by go_num, hide (by have := hat.out; rw [if_pos h1'.out] at this; omega)⟩
          case measure => simp [intOf]; omega
        · have h2 : digB (s[k].toNat : Int) = false := by simpa using h2
          have h3' := hide (wd_und h1 h2)
          by_cases h3 : ((s[k].toNat : Int) == 95) = true
          · have h3'' := hide h3
            go_wp2_with (first | (go_at_call 40; refine (letter_any _ _).mono ?_; rintro e w' ⟨rfl, rfl⟩) | (go_at_call 64; refine (digit_any _ _).mono ?_; rintro e w' ⟨rfl, rfl⟩))
            go_round
            case rel => exact ⟨k + 1, by omega, by go_num, hide (by have := hat.out; rw [if_pos (h3'.out.trans h3''.out)] at this; omega)⟩
            case measure => simp [intOf]; omega
          · have h3 : ((s[k].toNat : Int) == 95) = false := by simpa using h3
            have h3'' := hide h3
            go_wp2_with (first | (go_at_call 40; refine (letter_any _ _).mono ?_; rintro e w' ⟨rfl, rfl⟩) | (go_at_call 64; refine (digit_any _ _).mono ?_; rintro e w' ⟨rfl, rfl⟩))
            go_ret
            refine ⟨ret_int ?_, rfl⟩
            have := hat.out
            rw [if_neg (by rw [h3'.out, h3''.out]; simp)] at this
            omega
    · have he : k = s.size := by omega
      have hq := hide (wl_end s (he ▸ hw.out))
      clear he
      go_wp2
      go_ret
      refine ⟨ret_int ?_, rfl⟩
      have := hq.out
      omega
theorem empty_of {s : ByteArray} (h : s.size = 0) : (!s.toList.isEmpty) = false := by
  rw [ByteArray.toList_eq]
  have : s.data.toList = [] := by apply List.eq_nil_of_length_eq_zero; simpa using h
  rw [this]; rfl
theorem full_of {s : ByteArray} (h : 0 < s.size) : (!s.toList.isEmpty) = true := by
  rw [ByteArray.toList_eq]
  cases e : s.data.toList with
  | nil =>
    have h2 : s.data.toList.length = s.size := Array.length_toList
    rw [e] at h2; simp at h2; omega
  | cons => rfl
set_option maxHeartbeats 1000000 in
theorem isname_any (s : ByteArray) (w : World) (hs : s.size ≤ maxLen) :
    Calls Tryd.prog 23 #[.string s] w fun e w' => e = .returned (.bool (nameB s.data.toList)) ∧ w = w' := by
  have hs' := hs
  unfold maxLen at hs
  by_cases h0 : s.size = 0
  · have hn := hide (nameB_nil s h0)
    have he' := empty_of h0
    go_enter Tryd.func23, Tryd.ntmps23
    go_wp2
    go_ret
    exact ⟨ret_bool hn.out.symm, rfl⟩
  · have hn := hide (nameB_at s (by omega))
    have hp : 0 < s.size := by omega
    have he := full_of hp
    by_cases h1 : s.size ≤ 20 <;> by_cases h2 : letB (s[0].toNat : Int) = true
    all_goals
      go_enter Tryd.func23, Tryd.ntmps23
      go_wp2_with (first | (go_at_call 40; refine (letter_any _ _).mono ?_; rintro e w' ⟨rfl, rfl⟩) | (go_at_call 41; refine (word_any _ _ hs').mono ?_; rintro e w' ⟨rfl, rfl⟩))
      go_ret
      refine ⟨ret_bool ?_, rfl⟩
      rw [hn.out]
      simp [h1, h2]
    rw [Bool.eq_iff_iff]; simp; omega
end Go.Proofs.YtbmocghfpcfmhaaDoor

namespace Go.Proofs.YtbmocghfpcfmhaaDoor
open Go Go.RowKit

structure Itm where
  nm : ByteArray
  am : Int
  pr : Int
abbrev Itm.val (x : Itm) : Value := .agg #[.string x.nm, .int .i64 x.am, .int .i64 x.pr]
def ItmAt (w : World) (b o : Nat) (x : Itm) : Prop := w.cell? ⟨b, o, none⟩ = some (.string x.nm) ∧ w.cell? ⟨b, o + 1, none⟩ = some (.int .i64 x.am) ∧ w.cell? ⟨b, o + 2, none⟩ = some (.int .i64 x.pr)
/-- a slice of items that reads as a list -/
def ItmSl (w : World) (A : Option Addr) (l : List Itm) : Prop :=
  (l.length ≤ maxLen ∧ ∀ i (h : i < l.length), l[i].nm.size ≤ maxLen) ∧ (0 < l.length → ∃ b off, A = some ⟨b, off, none⟩ ∧ b < w.heap.size ∧ ∀ i (h : i < l.length), ItmAt w b (off + i * 3) l[i])
theorem ItmSl.below {w w' : World} {A : Option Addr} {l : List Itm} (h : ItmSl w A l) (hb : Below w.heap.size w w') : ItmSl w' A l :=
  ⟨h.1, fun hl => by
    obtain ⟨b, off, e, hlt, hat⟩ := h.2 hl
    have k := fun (i : Nat) => hb.cell (p := ⟨b, i, none⟩) hlt
    exact ⟨b, off, e, Nat.lt_of_lt_of_le hlt hb.size, fun i hi => ⟨(k _).trans (hat i hi).1, (k _).trans (hat i hi).2.1, (k _).trans (hat i hi).2.2⟩⟩⟩
theorem ItmSl.nil (w : World) (A : Option Addr) : ItmSl w A [] := ⟨⟨by simp, fun i h => by simp at h⟩, fun h => by simp at h⟩
def idxM (p : Itm → Bool) (l : List Itm) : Int := match l.findIdx? p with | some i => (i : Int) | none => -1
theorem idxM_no {p : Itm → Bool} {l : List Itm} (h : ∀ i (hi : i < l.length), p l[i] = false) : idxM p l = -1 := by
  have : l.findIdx? p = none := by
    rw [List.findIdx?_eq_none_iff]
    intro x hx
    obtain ⟨i, hi, rfl⟩ := List.mem_iff_getElem.1 hx
    exact h i hi
  simp [idxM, this]
theorem idxM_yes {p : Itm → Bool} {l : List Itm} {k : Nat} (hk : k < l.length) (h : ∀ i (hi : i < l.length), i < k → p l[i] = false) (hy : p l[k] = true) : idxM p l = k := by
  have : l.findIdx? p = some k := by
    rw [List.findIdx?_eq_some_iff_getElem]
    exact ⟨hk, hy, fun j hj => by rw [h j (by omega) hj]; simp⟩
  simp [idxM, this]
theorem any_idxM (p : Itm → Bool) (l : List Itm) : l.any p = decide (0 ≤ idxM p l) := by
  unfold idxM
  cases h : l.findIdx? p with
  | none =>
    rw [List.findIdx?_eq_none_iff] at h
    rw [Bool.eq_iff_iff]
    simp only [List.any_eq_true, decide_eq_true_eq]
    constructor
    · rintro ⟨x, hx, hp⟩
      rw [h x hx] at hp
      cases hp
    · intro h'
      omega
  | some i =>
    rw [List.findIdx?_eq_some_iff_getElem] at h
    obtain ⟨hi, hp, _⟩ := h
    rw [Bool.eq_iff_iff]
    simp only [List.any_eq_true, decide_eq_true_eq]
    exact ⟨fun _ => by omega, fun _ => ⟨l[i], List.getElem_mem hi, hp⟩⟩
set_option maxRecDepth 100000 in
set_option maxHeartbeats 2000000 in
theorem idxM_any (f : Nat) (q : Itm → Bool) (hf : ∀ (d : Itm) (W : World), d.nm.size ≤ maxLen → Calls Tryd.prog f #[d.val] W (RetW (.bool (q d)) W)) (hc : ∀ (d : Itm) (w : World), (callFunc f #[d.val]).run Tryd.prog w = .ok (.enter f #[d.val]) w) (l : List Itm) (A : Option Addr) (cap : Nat) (w : World) (hl : ItmSl w A l) :
    Calls Tryd.prog 39 #[.slice A l.length cap, .func (.func f) #[] #[]] w (RetW (.int .i64 (idxM q l)) w) := by
  have hlen : l.length ≤ 9223372036854775807 := by have := hl.1.1; unfold maxLen at this; omega
  have H := hide hl
  have CK := hide hf
  unfold RetW at CK
  clear hl hf
  go_enter Tryd.func39, Tryd.ntmps39
  go_wp2
  go_loopw [8] (fun v8 wr => ∃ k : Nat, k ≤ l.length ∧ v8 = .int .i64 k ∧ Hid (Below w.heap.size w wr) ∧ Hid (∀ i (hi : i < l.length), i < k → q l[i] = false)) (fun v8 _ => l.length - (intOf v8).toNat)
  case atStart => exact ⟨0, Nat.zero_le _, rfl, hide (Below.refl _ _), hide (fun _ _ h => by omega)⟩
  case round =>
    obtain ⟨k, hk, rfl, HW, hno⟩ := hrel
    by_cases hlt : k < l.length
    · obtain ⟨b, off, rfl, hbl, hat⟩ := (H.out.below HW.out).2 (by omega)
      obtain ⟨c0, c1, c2⟩ := hat k hlt
      have CKk := hide (fun W => CK.out l[k] W (H.out.1.2 k hlt))
      clear hat
      by_cases hs : q l[k] = true
      · have E := hide (idxM_yes (p := q) hlt (fun i hi hik => hno.out i hi hik) hs)
        rw [hs] at CKk
        clear hs
        generalize l[k] = o at *
        go_wp2_with fail
        refine (CKk.out _).mono ?_
        rintro e w' ⟨rfl, hb⟩
        go_wp2
        go_ret
        exact ⟨ret_int E.out.symm, below_via HW.out HW.out.size hb⟩
      · have hs : q l[k] = false := by simpa using hs
        have hno2 := hide (fun i (hi : i < l.length) (hik : i < k + 1) => (show q l[i] = false by
          by_cases e : i = k
          · subst e; exact hs
          · exact hno.out i hi (by omega)))
        rw [hs] at CKk
        clear hs
        generalize l[k] = o at *
        go_wp2_with fail
        refine (CKk.out _).mono ?_
        rintro e w' ⟨rfl, hb⟩
        have HW2 := hide (below_via HW.out HW.out.size hb)
        clear hb
        go_wp2
        go_roundw
        case rel => exact ⟨k + 1, by omega, by go_num, HW2, hno2⟩
        case measure => simp [intOf]; omega
    · go_wp2
      go_ret
      exact ⟨ret_int (idxM_no fun i hi => hno.out i hi (by omega)).symm, HW.out⟩
set_option maxHeartbeats 1000000 in
theorem contM_any (f : Nat) (q : Itm → Bool) (hf : ∀ (d : Itm) (W : World), d.nm.size ≤ maxLen → Calls Tryd.prog f #[d.val] W (RetW (.bool (q d)) W)) (hc : ∀ (d : Itm) (w : World), (callFunc f #[d.val]).run Tryd.prog w = .ok (.enter f #[d.val]) w) (l : List Itm) (A : Option Addr) (cap : Nat) (w : World) (hl : ItmSl w A l) :
    Calls Tryd.prog 21 #[.slice A l.length cap, .func (.func f) #[] #[]] w (RetW (.bool (l.any q)) w) := by
  have C := hide (idxM_any f q hf hc l A cap w hl)
  have H := hide (any_idxM q l)
  unfold RetW at C
  clear hf hl
  go_enter Tryd.func21, Tryd.ntmps21
  go_wp2_with fail
  refine C.out.mono ?_
  rintro e w' ⟨rfl, hb⟩
  go_wp2
  go_ret
  exact ⟨ret_bool H.out.symm, hb⟩
def amB (n : Int) : Bool := decide (-1073741824 ≤ n) && decide (n ≤ 1073741824)
def prcB (n : Int) : Bool := decide (0 ≤ n) && decide (n ≤ 1073741824)
/-- an item is right -/
def itB (x : Itm) : Bool := nameB x.nm.data.toList && amB x.am && prcB x.pr
def vI (l : List Itm) : Bool := decide (l.length ≤ 1000) && l.all itB
set_option maxHeartbeats 2000000 in
theorem covalid1_any (x : Itm) (w : World) (h : x.nm.size ≤ maxLen) : Calls Tryd.prog 22 #[x.val] w (RetW (.bool (!itB x)) w) := by
  have NB := hide (fun W => isname_any x.nm W h)
  have B1 := hide (fun W => cobetween_any x.am (-1073741824) 1073741824 W)
  have B2 := hide (fun W => cobetween_any x.pr 0 1073741824 W)
  have E : Hid (itB x = (nameB x.nm.data.toList && (decide (-1073741824 ≤ x.am) && decide (x.am ≤ 1073741824)) && (decide (0 ≤ x.pr) && decide (x.pr ≤ 1073741824)))) := hide rfl
  have X := (Own.start w).alloc #[.string x.nm, .int .i64 x.am, .int .i64 x.pr] 32
  have hr := X.r1
  clear h
  generalize nameB x.nm.data.toList = b0 at *
  generalize (decide (-1073741824 ≤ x.am) && decide (x.am ≤ 1073741824)) = b1 at *
  generalize (decide (0 ≤ x.pr) && decide (x.pr ≤ 1073741824)) = b2 at *
  have ways : b0 = false ∨ (b0 = true ∧ b1 = false) ∨ (b0 = true ∧ b1 = true) := by cases b0 <;> cases b1 <;> simp
  rcases ways with rfl | ⟨rfl, rfl⟩ | ⟨rfl, rfl⟩
  · go_enter Tryd.func22, Tryd.ntmps22
    go_wp2_with fail
    refine (NB.out _).mono ?_
    rintro e w' ⟨rfl, rfl⟩
    go_wp2
    go_ret
    exact ⟨ret_bool (by rw [E.out]; rfl), X.1⟩
  · go_enter Tryd.func22, Tryd.ntmps22
    go_wp2_with fail
    refine (NB.out _).mono ?_
    rintro e w' ⟨rfl, rfl⟩
    go_wp2_with fail
    refine (B1.out _).mono ?_
    rintro e w' ⟨rfl, rfl⟩
    go_wp2
    go_ret
    exact ⟨ret_bool (by rw [E.out]; rfl), X.1⟩
  · go_enter Tryd.func22, Tryd.ntmps22
    go_wp2_with fail
    refine (NB.out _).mono ?_
    rintro e w' ⟨rfl, rfl⟩
    go_wp2_with fail
    refine (B1.out _).mono ?_
    rintro e w' ⟨rfl, rfl⟩
    go_wp2_with fail
    refine (B2.out _).mono ?_
    rintro e w' ⟨rfl, rfl⟩
    go_wp2
    go_ret
    exact ⟨ret_bool (by rw [E.out]; simp), X.1⟩
set_option maxHeartbeats 1000000 in
theorem covalid_any (l : List Itm) (A : Option Addr) (cap : Nat) (w : World) (hl : ItmSl w A l) : Calls Tryd.prog 10 #[.slice A l.length cap] w (RetW (.bool (vI l)) w) := by
  have C := hide (contM_any 22 (fun x => !itB x) covalid1_any (fun d w => enters_of Tryd.func22 (by kernel_rfl) rfl _ w) l A cap w hl)
  have E : Hid ((!(l.any fun x => !itB x)) = l.all itB) := hide (by rw [List.any_eq_not_all_not]; simp)
  have EV : Hid (vI l = (decide (l.length ≤ 1000) && l.all itB)) := hide rfl
  have hlen : l.length ≤ 9223372036854775807 := by have := hl.1.1; unfold maxLen at this; omega
  unfold RetW at C
  clear hl
  generalize (l.any fun x => !itB x) = b at *
  generalize l.all itB = b2 at *
  generalize vI l = v at *
  by_cases h : l.length ≤ 1000
  · have g : decide (l.length ≤ 1000) = true := decide_eq_true h
    go_enter Tryd.func10, Tryd.ntmps10
    go_wp2_with fail
    refine C.out.mono ?_
    rintro e w' ⟨rfl, hb⟩
    go_wp2
    go_ret
    exact ⟨ret_bool (by rw [EV.out, g, E.out]; rfl), hb⟩
  · have g : decide (l.length ≤ 1000) = false := decide_eq_false h
    go_enter Tryd.func10, Tryd.ntmps10
    go_wp2
    go_ret
    exact ⟨ret_bool (by rw [EV.out, g]; rfl), Below.refl _ _⟩
end Go.Proofs.YtbmocghfpcfmhaaDoor

namespace Go.Proofs.YtbmocghfpcfmhaaDoor

/-- items of one name and price -/
def same (x y : Itm) : Bool := decide (y.nm = x.nm) && decide (y.pr = x.pr)
theorem same_iff {x y : Itm} : same x y = true ↔ y.nm = x.nm ∧ y.pr = x.pr := by simp [same]
theorem same_refl (x : Itm) : same x x = true := same_iff.2 ⟨rfl, rfl⟩
theorem same_symm {x y : Itm} (h : same x y = true) : same y x = true := same_iff.2 ⟨(same_iff.1 h).1.symm, (same_iff.1 h).2.symm⟩
theorem same_trans {x y z : Itm} (h : same x y = true) (k : same y z = true) : same x z = true := same_iff.2 ⟨(same_iff.1 k).1.trans (same_iff.1 h).1, (same_iff.1 k).2.trans (same_iff.1 h).2⟩
theorem same_congr {x y z : Itm} (h : same x y = true) : same x z = same y z := by
  rw [Bool.eq_iff_iff]
  exact ⟨fun k => same_trans (same_symm h) k, fun k => same_trans h k⟩
def csS : List Itm → Int
  | [] => 0
  | x :: l => x.am * x.pr + csS l
theorem csS_append : ∀ a b : List Itm, csS (a ++ b) = csS a + csS b
  | [], b => by simp [csS]
  | x :: a, b => by simp only [List.cons_append, csS, csS_append a b]; omega
theorem csS_reverse : ∀ a : List Itm, csS a.reverse = csS a
  | [] => rfl
  | x :: a => by rw [List.reverse_cons, csS_append, csS_reverse a]; simp only [csS]; omega
theorem itB_bd {x : Itm} (h : itB x = true) : (-1073741824 ≤ x.am ∧ x.am ≤ 1073741824) ∧ 0 ≤ x.pr ∧ x.pr ≤ 1073741824 := by
  simp only [itB, amB, prcB, Bool.and_eq_true, decide_eq_true_eq] at h
  omega
theorem vI_iff {l : List Itm} : vI l = true ↔ l.length ≤ 1000 ∧ ∀ x ∈ l, itB x = true := by simp [vI]
theorem prod_bd {x : Itm} (h : itB x = true) : -1152921504606846976 ≤ x.am * x.pr ∧ x.am * x.pr ≤ 1152921504606846976 := by
  obtain ⟨h1, h2⟩ := itB_bd h
  have := mul_bd (x := x.am) (y := x.pr) (n := 1073741824) (by omega) (by omega)
  simpa using this
theorem csS_bd : ∀ l : List Itm, (∀ x ∈ l, itB x = true) → -(1152921504606846976 * (l.length : Int)) ≤ csS l ∧ csS l ≤ 1152921504606846976 * (l.length : Int)
  | [], _ => by simp [csS]
  | x :: l, h => by
    have i := csS_bd l fun y hy => h y (List.mem_cons_of_mem _ hy)
    have p := prod_bd (h x (List.mem_cons_self ..))
    simp only [csS, List.length_cons]
    generalize x.am * x.pr = q at *
    omega
/-- what a bill costs, and the error -/
def biE (l : List Itm) : Int := if vI l = true then if -1152921504606846976 ≤ csS l ∧ csS l ≤ 1152921504606846976 then 0 else 5 else 1
def biV (l : List Itm) : Int := if biE l = 0 then csS l else 0
/-- the amount of all items like one -/
def tot (x : Itm) : List Itm → Int
  | [] => 0
  | y :: l => (if same x y = true then y.am else 0) + tot x l
theorem tot_append (x : Itm) : ∀ a b : List Itm, tot x (a ++ b) = tot x a + tot x b
  | [], b => by simp [tot]
  | y :: a, b => by simp only [List.cons_append, tot, tot_append x a b]; omega
theorem tot_congr {x y : Itm} (h : same x y = true) : ∀ l : List Itm, tot x l = tot y l
  | [] => rfl
  | z :: l => by simp only [tot, same_congr h, tot_congr h l]
theorem tot_none {x : Itm} : ∀ {l : List Itm}, l.any (same x) = false → tot x l = 0
  | [], _ => rfl
  | y :: l, h => by
    simp only [List.any_cons, Bool.or_eq_false_iff] at h
    simp [tot, h.1, tot_none h.2]
theorem tot_bd (x : Itm) : ∀ l : List Itm, (∀ y ∈ l, itB y = true) → -(1073741824 * (l.length : Int)) ≤ tot x l ∧ tot x l ≤ 1073741824 * (l.length : Int)
  | [], _ => by simp [tot]
  | y :: l, h => by
    have i := tot_bd x l fun y hy => h y (List.mem_cons_of_mem _ hy)
    obtain ⟨p, _⟩ := itB_bd (h y (List.mem_cons_self ..))
    simp only [tot, List.length_cons]
    split <;> omega
/-- one item more in the sums -/
def addM (s : List Itm) (x : Itm) : List Itm :=
  match s.findIdx? (same x) with
  | some k => s.set k ⟨(s.getD k x).nm, (s.getD k x).am + x.am, (s.getD k x).pr⟩
  | none => s ++ [x]
def mgS (l : List Itm) : List Itm := l.foldl addM []
theorem mgS_snoc (l : List Itm) (x : Itm) : mgS (l ++ [x]) = addM (mgS l) x := by simp [mgS]
theorem snoc_ind {P : List Itm → Prop} (h0 : P []) (h1 : ∀ l x, P l → P (l ++ [x])) (l : List Itm) : P l := by
  have : ∀ n (l : List Itm), l.length = n → P l := by
    intro n
    induction n with
    | zero => intro l hl; rw [List.length_eq_zero_iff.1 hl]; exact h0
    | succ n ih =>
      intro l hl
      have hne : l ≠ [] := by intro e; rw [e] at hl; simp at hl
      rw [← List.dropLast_concat_getLast hne]
      exact h1 _ _ (ih _ (by rw [List.length_dropLast]; omega))
  exact this _ l rfl
/-- the items at which a name and price occur first -/
def fsM (l : List Itm) : List Itm := l.foldl (fun s x => if s.any (same x) = true then s else s ++ [x]) []
theorem fsM_snoc (l : List Itm) (x : Itm) : fsM (l ++ [x]) = if (fsM l).any (same x) = true then fsM l else fsM l ++ [x] := by simp [fsM]
theorem any_fsM (x : Itm) (l : List Itm) : (fsM l).any (same x) = l.any (same x) := by
  induction l using snoc_ind with
  | h0 => rfl
  | h1 l y ih =>
    rw [fsM_snoc]
    by_cases h : (fsM l).any (same y) = true
    · rw [if_pos h, List.any_append, ih]
      simp only [List.any_cons, List.any_nil, Bool.or_false]
      by_cases k : same x y = true
      · obtain ⟨z, hz, hs⟩ := List.any_eq_true.1 h
        have : l.any (same x) = true := by
          rw [← ih]
          exact List.any_eq_true.2 ⟨z, hz, same_trans k hs⟩
        simp [this]
      · simp [k]
    · rw [if_neg h, List.any_append, List.any_append, ih]
def wth (l : List Itm) (x : Itm) : Itm := ⟨x.nm, tot x l, x.pr⟩
theorem same_wth (x : Itm) (l : List Itm) (y : Itm) : same x (wth l y) = same x y := rfl
def ndM : List Itm → Prop
  | [] => True
  | x :: l => l.any (same x) = false ∧ ndM l
theorem ndM_snoc : ∀ (l : List Itm) (x : Itm), ndM l → l.any (same x) = false → ndM (l ++ [x])
  | [], x, _, _ => ⟨rfl, trivial⟩
  | y :: l, x, h, k => by
    simp only [List.any_cons, Bool.or_eq_false_iff] at k
    refine ⟨?_, ndM_snoc l x h.2 k.2⟩
    show (l ++ [x]).any (same y) = false
    rw [List.any_append, h.1]
    have : same y x = false := by
      cases e : same y x with
      | false => rfl
      | true => rw [same_symm e] at k; simp at k
    simp [this]
theorem fsM_nd (l : List Itm) : ndM (fsM l) := by
  induction l using snoc_ind with
  | h0 => exact trivial
  | h1 l x ih =>
    rw [fsM_snoc]
    by_cases h : (fsM l).any (same x) = true
    · rw [if_pos h]; exact ih
    · rw [if_neg h]; exact ndM_snoc _ _ ih (by simpa using h)
theorem ndM_at : ∀ {s : List Itm} (_ : ndM s) {i j : Nat} (hi : i < s.length) (hj : j < s.length), same s[i] s[j] = true → i = j
  | [], _, _, _, hi, _, _ => by simp at hi
  | x :: l, h, i, j, hi, hj, hs => by
    have no : ∀ k (hk : k < l.length), same x l[k] = false := fun k hk => by
      have := h.1
      rw [List.any_eq_false] at this
      simpa using this _ (List.getElem_mem hk)
    rcases i with _ | i <;> rcases j with _ | j
    · rfl
    · simp only [List.getElem_cons_zero, List.getElem_cons_succ] at hs
      rw [no j (by simpa using hj)] at hs; cases hs
    · simp only [List.getElem_cons_zero, List.getElem_cons_succ] at hs
      have := same_symm hs
      rw [no i (by simpa using hi)] at this; cases this
    · simp only [List.getElem_cons_succ] at hs
      rw [ndM_at h.2 (by simpa using hi) (by simpa using hj) hs]
/-- the sums are the first items with the amounts of all that are like them -/
theorem mgS_eq (l : List Itm) : mgS l = (fsM l).map (wth l) := by
  induction l using snoc_ind with
  | h0 => rfl
  | h1 l x ih =>
    rw [mgS_snoc, fsM_snoc, ih]
    unfold addM
    cases e : ((fsM l).map (wth l)).findIdx? (same x) with
    | none =>
      rw [List.findIdx?_eq_none_iff] at e
      have h : (fsM l).any (same x) = false := by
        rw [List.any_eq_false]
        intro y hy
        have := e (wth l y) (List.mem_map_of_mem hy)
        rw [same_wth] at this
        simp [this]
      rw [if_neg (by simp [h]), List.map_append]
      have e1 : (fsM l).map (wth l) = (fsM l).map (wth (l ++ [x])) := by
        refine List.map_congr_left fun y hy => ?_
        unfold wth
        rw [tot_append]
        have : same y x = false := by
          cases k : same y x with
          | false => rfl
          | true =>
            rw [List.any_eq_false] at h
            exact absurd (same_symm k) (h y hy)
        simp [tot, this]
      have e2 : wth (l ++ [x]) x = x := by
        unfold wth
        rw [tot_append, tot_none (by rw [← any_fsM]; exact h)]
        simp [tot, same_refl]
      rw [← e1, List.map_cons, List.map_nil, e2]
    | some k =>
      rw [List.findIdx?_eq_some_iff_getElem] at e
      obtain ⟨hk, hs, hno⟩ := e
      have hk' : k < (fsM l).length := by simpa using hk
      rw [List.getElem_map, same_wth] at hs
      have h : (fsM l).any (same x) = true := List.any_eq_true.2 ⟨_, List.getElem_mem hk', hs⟩
      rw [if_pos h]
      show ((fsM l).map (wth l)).set k _ = _
      refine List.ext_getElem (by simp) fun i h1 h2 => ?_
      have hi : i < (fsM l).length := by simpa using h2
      rw [List.getElem_set]
      by_cases c : k = i
      · subst c
        simp only [if_true, List.getElem_map, List.getD_eq_getElem?_getD, List.getElem?_map, List.getElem?_eq_getElem hk', Option.map_some, Option.getD_some]
        unfold wth
        simp only [tot_append, tot, Int.add_zero, if_pos (same_symm hs)]
      · simp only [if_neg c, List.getElem_map]
        unfold wth
        have : same (fsM l)[i] x = false := by
          cases q : same (fsM l)[i] x with
          | false => rfl
          | true => exact absurd (ndM_at (fsM_nd l) hk' hi (same_trans (same_symm hs) (same_symm q))) c
        simp only [tot_append, tot, this]
        simp
def outB (x : Itm) : Bool := !amB x.am
/-- the merged bill, and the error -/
def mgO (l : List Itm) : List Itm := (mgS l).filter fun x => decide (x.am ≠ 0)
def mgE (l : List Itm) : Int := if (mgS l).any outB = true then 5 else 0
def mgL (l : List Itm) : List Itm := if mgE l = 0 then mgO l else []
theorem ndM_map {f : Itm → Itm} (hf : ∀ x y, same (f x) (f y) = same x y) : ∀ {l : List Itm}, ndM l → ndM (l.map f)
  | [], _ => trivial
  | x :: l, h => by
    refine ⟨?_, ndM_map hf h.2⟩
    rw [List.any_map]
    have : (same (f x) ∘ f) = same x := by funext y; exact hf x y
    rw [this]; exact h.1
theorem ndM_filter {p : Itm → Bool} : ∀ {l : List Itm}, ndM l → ndM (l.filter p)
  | [], _ => trivial
  | x :: l, h => by
    rw [List.filter_cons]
    split
    · refine ⟨?_, ndM_filter h.2⟩
      rw [List.any_eq_false]
      intro y hy
      have := h.1
      rw [List.any_eq_false] at this
      exact this y (List.mem_filter.1 hy).1
    · exact ndM_filter h.2
theorem mgS_nd (l : List Itm) : ndM (mgS l) := by rw [mgS_eq]; exact ndM_map (f := wth l) (fun _ _ => rfl) (fsM_nd l)
theorem mgS_mem {l : List Itm} {x : Itm} (h : x ∈ mgS l) : x.am = tot x l ∧ ∃ y ∈ l, same y x = true := by
  rw [mgS_eq] at h
  obtain ⟨y, hy, rfl⟩ := List.mem_map.1 h
  refine ⟨(tot_congr (show same (wth l y) y = true from same_iff.2 ⟨rfl, rfl⟩) l).symm, ?_⟩
  have : (fsM l).any (same y) = true := List.any_eq_true.2 ⟨y, hy, same_refl y⟩
  rw [any_fsM] at this
  obtain ⟨z, hz, hs⟩ := List.any_eq_true.1 this
  exact ⟨z, hz, same_symm hs⟩
theorem mgS_has {l : List Itm} {y : Itm} (h : y ∈ l) : ∃ x ∈ mgS l, same y x = true ∧ x.am = tot y l := by
  have : l.any (same y) = true := List.any_eq_true.2 ⟨y, h, same_refl y⟩
  rw [← any_fsM] at this
  obtain ⟨z, hz, hs⟩ := List.any_eq_true.1 this
  exact ⟨wth l z, by rw [mgS_eq]; exact List.mem_map_of_mem hz, hs, (tot_congr hs l).symm⟩
theorem fsM_len (l : List Itm) : (fsM l).length ≤ l.length := by
  induction l using snoc_ind with
  | h0 => simp [fsM]
  | h1 l x ih =>
    rw [fsM_snoc, List.length_append, List.length_singleton]
    split
    · omega
    · simp; omega
theorem mgS_len (l : List Itm) : (mgS l).length ≤ l.length := by rw [mgS_eq, List.length_map]; exact fsM_len l
theorem mgO_len (l : List Itm) : (mgO l).length ≤ l.length := Nat.le_trans (List.length_filter_le _ _) (mgS_len l)
/-- sums of costs -/
theorem csS_set : ∀ (s : List Itm) (k : Nat) (h : k < s.length) (z : Itm), csS (s.set k z) = csS s - s[k].am * s[k].pr + z.am * z.pr
  | [], _, h, _ => by simp at h
  | x :: s, 0, _, z => by simp only [List.set_cons_zero, csS, List.getElem_cons_zero]; omega
  | x :: s, k + 1, h, z => by
    simp only [List.set_cons_succ, csS, List.getElem_cons_succ, csS_set s k (by simpa using h) z]; omega
theorem csS_addM (s : List Itm) (x : Itm) : csS (addM s x) = csS s + x.am * x.pr := by
  unfold addM
  cases e : s.findIdx? (same x) with
  | none => rw [csS_append]; simp [csS]
  | some k =>
    rw [List.findIdx?_eq_some_iff_getElem] at e
    obtain ⟨hk, hs, _⟩ := e
    have := (same_iff.1 hs).2
    show csS (s.set k _) = _
    rw [csS_set s k hk]
    simp only [List.getD_eq_getElem?_getD, List.getElem?_eq_getElem hk, Option.getD_some]
    rw [Int.add_mul, this]; omega
theorem csS_mgS (l : List Itm) : csS (mgS l) = csS l := by
  induction l using snoc_ind with
  | h0 => rfl
  | h1 l x ih => rw [mgS_snoc, csS_addM, ih, csS_append]; simp [csS]
theorem csS_filter : ∀ l : List Itm, csS (l.filter fun x => decide (x.am ≠ 0)) = csS l
  | [] => rfl
  | x :: l => by
    rw [List.filter_cons]
    split
    · simp only [csS, csS_filter l]
    · rename_i h
      have : x.am = 0 := by simpa using h
      rw [csS_filter l]; simp [csS, this]
theorem csS_mgO (l : List Itm) : csS (mgO l) = csS l := by unfold mgO; rw [csS_filter, csS_mgS]
theorem addM_new {s : List Itm} {x : Itm} (h : s.any (same x) = false) : addM s x = s ++ [x] := by
  unfold addM
  have : s.findIdx? (same x) = none := by
    rw [List.findIdx?_eq_none_iff]
    rw [List.any_eq_false] at h
    intro y hy
    simpa using h y hy
  rw [this]
theorem ndM_app : ∀ {a b : List Itm}, ndM (a ++ b) → ndM a ∧ ndM b ∧ ∀ x ∈ b, a.any (same x) = false
  | [], _, h => ⟨trivial, h, fun _ _ => rfl⟩
  | y :: a, b, h => by
    obtain ⟨h1, h2⟩ := h
    obtain ⟨k1, k2, k3⟩ := ndM_app h2
    have h1 : (a ++ b).any (same y) = false := h1
    rw [List.any_append, Bool.or_eq_false_iff] at h1
    refine ⟨⟨h1.1, k1⟩, k2, fun x hx => ?_⟩
    rw [List.any_cons, k3 x hx, Bool.or_false]
    cases e : same x y with
    | false => rfl
    | true =>
      have := h1.2
      rw [List.any_eq_false] at this
      exact absurd (same_symm e) (this x hx)
theorem mgS_id (l : List Itm) (h : ndM l) : mgS l = l := by
  induction l using snoc_ind with
  | h0 => rfl
  | h1 l x ih =>
    obtain ⟨h1, _, h3⟩ := ndM_app h
    rw [mgS_snoc, ih h1, addM_new (h3 x (List.mem_singleton.2 rfl))]
theorem mgO_id (l : List Itm) : mgO (mgO l) = mgO l := by
  have e : mgS (mgO l) = mgO l := mgS_id _ (ndM_filter (mgS_nd l))
  have e2 : mgO (mgO l) = (mgS (mgO l)).filter fun x => decide (x.am ≠ 0) := rfl
  rw [e2, e]
  unfold mgO
  rw [List.filter_filter]
  congr 1
  funext x; simp
theorem mgE_cases (l : List Itm) : mgE l = 0 ∨ mgE l = 5 := by unfold mgE; split <;> simp
theorem mgE_ok {l : List Itm} (h : mgE l = 0) {x : Itm} (hx : x ∈ mgS l) : -1073741824 ≤ x.am ∧ x.am ≤ 1073741824 := by
  unfold mgE at h
  by_cases k : (mgS l).any outB = true
  · rw [if_pos k] at h; cases h
  · have : outB x = false := by
      have k : (mgS l).any outB = false := by simpa using k
      rw [List.any_eq_false] at k
      simpa using k x hx
    simpa [outB, amB] using this
theorem mgO_it {l : List Itm} (hv : ∀ x ∈ l, itB x = true) (h : mgE l = 0) : ∀ x ∈ mgO l, itB x = true := by
  intro x hx
  have hx' := (List.mem_filter.1 hx).1
  have b := mgE_ok h hx'
  obtain ⟨_, y, hy, hs⟩ := mgS_mem hx'
  have q := hv y hy
  obtain ⟨e1, e2⟩ := same_iff.1 hs
  simp only [itB, amB, prcB, Bool.and_eq_true, decide_eq_true_eq] at q ⊢
  rw [e1, e2]
  exact ⟨⟨q.1.1, b⟩, q.2⟩
theorem mgO_v {l : List Itm} (hv : vI l = true) (h : mgE l = 0) : vI (mgO l) = true := by
  obtain ⟨h1, h2⟩ := vI_iff.1 hv
  exact vI_iff.2 ⟨Nat.le_trans (mgO_len l) h1, mgO_it h2 h⟩
theorem mgE_again {l : List Itm} (h : mgE l = 0) : mgE (mgO l) = 0 := by
  have e : mgS (mgO l) = mgO l := mgS_id _ (ndM_filter (mgS_nd l))
  unfold mgE
  rw [e, if_neg]
  intro k
  obtain ⟨x, hx, ho⟩ := List.any_eq_true.1 k
  have b := mgE_ok h (List.mem_filter.1 hx).1
  simp [outB, amB] at ho
  omega
/-- the opposite bill -/
def oppI (x : Itm) : Itm := ⟨x.nm, -x.am, x.pr⟩
def oppL (l : List Itm) : List Itm := l.map oppI
theorem csS_opp : ∀ l : List Itm, csS (oppL l) = -csS l
  | [] => rfl
  | x :: l => by
    have := csS_opp l
    simp only [oppL, List.map_cons, csS, oppI] at this ⊢
    rw [this, Int.neg_mul]; omega
theorem tot_opp (x : Itm) : ∀ l : List Itm, tot x (oppL l) = -tot x l
  | [] => rfl
  | y :: l => by
    have i := tot_opp x l
    simp only [oppL, List.map_cons, tot] at i ⊢
    rw [i]
    have : same x (oppI y) = same x y := rfl
    rw [this]
    have e : (oppI y).am = -y.am := rfl
    rw [e]
    split <;> omega
theorem mgO_self (a : List Itm) : mgO (a ++ oppL a) = [] := by
  unfold mgO
  rw [List.filter_eq_nil_iff]
  intro x hx
  have := (mgS_mem hx).1
  rw [tot_append, tot_opp] at this
  have e : x.am = 0 := by omega
  rw [e]; simp
theorem itB_opp {x : Itm} (h : itB x = true) : itB (oppI x) = true := by
  obtain ⟨⟨h1, h2⟩, _⟩ := itB_bd h
  have e : amB (oppI x).am = true := by
    show (decide (-1073741824 ≤ -x.am) && decide (-x.am ≤ 1073741824)) = true
    rw [decide_eq_true (by omega), decide_eq_true (by omega)]; rfl
  unfold itB at h ⊢
  rw [e]
  rw [Bool.and_eq_true, Bool.and_eq_true] at h
  rw [show nameB (oppI x).nm.data.toList = true from h.1.1, show prcB (oppI x).pr = true from h.2]; rfl
/-- the reference's merged bill: the first items, one by one -/
def itA (l : List Itm) (i : Nat) : Itm := l.getD i ⟨⟨#[]⟩, 0, 0⟩
theorem itA_at {l : List Itm} {i : Nat} (h : i < l.length) : itA l i = l[i] := by simp [itA, h]
def fstB (l : List Itm) (i : Nat) : Bool := !((l.take i).any (same (itA l i)))
def rfL (l : List Itm) : Nat → List Itm
  | 0 => []
  | i + 1 => rfL l i ++ if (fstB l i && decide (tot (itA l i) l ≠ 0)) = true then [wth l (itA l i)] else []
theorem rfL_eq (l : List Itm) : ∀ i, i ≤ l.length → rfL l i = ((fsM (l.take i)).map (wth l)).filter fun x => decide (x.am ≠ 0)
  | 0, _ => rfl
  | i + 1, h => by
    have e : l.take (i + 1) = l.take i ++ [itA l i] := by rw [List.take_succ_eq_append_getElem (by omega), itA_at (by omega)]
    rw [e, fsM_snoc]
    simp only [rfL, rfL_eq l i (by omega), any_fsM]
    by_cases c : (l.take i).any (same (itA l i)) = true
    · have f : fstB l i = false := by unfold fstB; rw [c]; rfl
      rw [if_pos c, f]; simp
    · rw [if_neg c, List.map_append, List.filter_append, List.map_cons, List.map_nil]
      have f : fstB l i = true := by unfold fstB; simp [c]
      congr 1
      rw [f, List.filter_cons]
      by_cases z : tot (itA l i) l = 0 <;> simp [wth, z]
theorem rfL_all (l : List Itm) : rfL l l.length = mgO l := by rw [rfL_eq l _ (Nat.le_refl _), List.take_length, mgO, mgS_eq]
theorem rfE_yes {l : List Itm} {i : Nat} (hi : i < l.length) (h : amB (tot (itA l i) l) = false) : mgE l = 5 := by
  unfold mgE
  rw [if_pos]
  rw [itA_at hi] at h
  obtain ⟨x, hx, _, e⟩ := mgS_has (List.getElem_mem hi)
  exact List.any_eq_true.2 ⟨x, hx, by unfold outB; rw [e, h]; rfl⟩
theorem rfE_no {l : List Itm} (h : ∀ i, i < l.length → amB (tot (itA l i) l) = true) : mgE l = 0 := by
  unfold mgE
  rw [if_neg]
  intro k
  obtain ⟨x, hx, ho⟩ := List.any_eq_true.1 k
  obtain ⟨e, y, hy, hs⟩ := mgS_mem hx
  obtain ⟨i, hi, rfl⟩ := List.mem_iff_getElem.1 hy
  have := h i hi
  rw [itA_at hi, tot_congr hs] at this
  unfold outB at ho
  rw [e, this] at ho
  cases ho
/-- amounts of the items like one among the first ones -/
def totN (l : List Itm) (x : Itm) (k : Nat) : Int := tot x (l.take k)
theorem totN_zero (l : List Itm) (x : Itm) : totN l x 0 = 0 := rfl
theorem totN_succ {l : List Itm} (x : Itm) {k : Nat} (h : k < l.length) : totN l x (k + 1) = totN l x k + if same x l[k] = true then l[k].am else 0 := by
  unfold totN
  rw [List.take_succ_eq_append_getElem h, tot_append]
  simp [tot]
theorem totN_all (l : List Itm) (x : Itm) : totN l x l.length = tot x l := by unfold totN; rw [List.take_length]
/-- among the first k items none before the i-th one is like it -/
def fst2 (l : List Itm) (i k : Nat) : Bool := !((l.take (min i k)).any (same (itA l i)))
theorem fst2_zero (l : List Itm) (i : Nat) : fst2 l i 0 = true := by simp [fst2]
theorem fst2_succ {l : List Itm} {i k : Nat} (h : k < l.length) : fst2 l i (k + 1) = (fst2 l i k && (!same (itA l i) l[k] || decide (i ≤ k))) := by
  unfold fst2
  by_cases c : i ≤ k
  · rw [show min i (k + 1) = i by omega, show min i k = i by omega]; simp [c]
  · rw [show min i (k + 1) = k + 1 by omega, show min i k = k by omega, List.take_succ_eq_append_getElem h, List.any_append]
    simp [c]
theorem fst2_all {l : List Itm} {i : Nat} (h : i < l.length) : fst2 l i l.length = fstB l i := by unfold fst2 fstB; rw [show min i l.length = i by omega]
end Go.Proofs.YtbmocghfpcfmhaaDoor

namespace Go.Proofs.YtbmocghfpcfmhaaDoor
open Go Go.RowKit

set_option maxHeartbeats 4000000 in
theorem copresent_no (c n d y : Int) (w : World) (h : prB c n d y = false) : Calls Tryd.prog 5 #[.int .i64 c, .int .i64 n, .int .i64 d, .int .i64 y] w (ErrP 2 w) := by
  have B1 := hide (fun W => cobetween_any c 0 1125899906842624 W)
  have B2 := hide (fun W => cobetween_any n 0 10000 W)
  have B3 := hide (fun W => cobetween_any d 1 10000 W)
  have B4 := hide (fun W => cobetween_any y 0 200 W)
  unfold prB at h
  have X := (Own.start w).alloc #[.int .i64 0, .int .i64 0] 24
  have hr := X.r1
  have XB := hide X.1
  generalize (decide (0 ≤ c) && decide (c ≤ 1125899906842624)) = b1 at *
  generalize (decide (0 ≤ n) && decide (n ≤ 10000)) = b2 at *
  generalize (decide (1 ≤ d) && decide (d ≤ 10000)) = b3 at *
  generalize (decide (0 ≤ y) && decide (y ≤ 200)) = b4 at *
  have ways : b1 = false ∨ (b1 = true ∧ b2 = false) ∨ (b1 = true ∧ b2 = true ∧ b3 = false) ∨ (b1 = true ∧ b2 = true ∧ b3 = true ∧ b4 = false) := by cases b1 <;> cases b2 <;> cases b3 <;> cases b4 <;> simp at h ⊢
  clear h X
  rcases ways with rfl | ⟨rfl, rfl⟩ | ⟨rfl, rfl, rfl⟩ | ⟨rfl, rfl, rfl, rfl⟩
  all_goals
    go_enter Tryd.func5, Tryd.ntmps5
    go_wp2_with fail
    refine (B1.out _).mono ?_
    rintro e w' ⟨rfl, rfl⟩
    first
      | (go_wp2_with fail
         refine (B2.out _).mono ?_
         rintro e w' ⟨rfl, rfl⟩)
      | skip
    first
      | (go_wp2_with fail
         refine (B3.out _).mono ?_
         rintro e w' ⟨rfl, rfl⟩)
      | skip
    first
      | (go_wp2_with fail
         refine (B4.out _).mono ?_
         rintro e w' ⟨rfl, rfl⟩)
      | skip
    go_wp2
    exact bodyPost_ret (v := .tuple #[.agg #[.int .i64 0, .int .i64 0], .int .i64 2]) (by simp [results, Tryd.results5, hr, go_sem]) rfl ⟨rfl, by have HX := XB.out; have hz := HX.size; go_grown⟩
theorem scP {x n d : Int} (h : 0 ≤ x ∧ x ≤ 1125899906842624) (hn : 0 ≤ n ∧ n ≤ 10000) (hd : 1 ≤ d ∧ d ≤ 10000) : scE x d (d + n) = 0 ∧ scLo x d (d + n) = dn (x * d) (d + n) ∧ scHi x d (d + n) = up (x * d) (d + n) := by
  have s1 := dn_step (n := n) (d := d) (x := x) hn.1 hd.1 h.1
  have s2 := up_step (n := n) (d := d) (x := x) hn.1 hd.1 h.1
  have b1 : i64B (dn (x * d) (d + n)) = true := i64B_iff.2 (by omega)
  have b2 : i64B (up (x * d) (d + n)) = true := i64B_iff.2 (by omega)
  refine ⟨?_, ?_, ?_⟩
  · unfold scE; rw [if_neg (by omega), if_pos ⟨b1, b2⟩]
  · unfold scLo; rw [if_pos ⟨by omega, b1, b2⟩]
  · unfold scHi; rw [if_pos ⟨by omega, b1, b2⟩]
set_option maxRecDepth 100000 in
set_option maxHeartbeats 4000000 in
theorem copresent_ok (c n d : Int) (y : Nat) (w : World) (hc : 0 ≤ c ∧ c ≤ 1125899906842624) (hn : 0 ≤ n ∧ n ≤ 10000) (hd : 1 ≤ d ∧ d ≤ 10000) (hy : y ≤ 200) : Calls Tryd.prog 5 #[.int .i64 c, .int .i64 n, .int .i64 d, .int .i64 (y : Int)] w (RetW (.tuple #[.agg #[.int .i64 (prL n d y c), .int .i64 (prU n d y c)], .int .i64 0]) w) := by
  have B1 := hide (fun W => cobetween_any c 0 1125899906842624 W)
  have B2 := hide (fun W => cobetween_any n 0 10000 W)
  have B3 := hide (fun W => cobetween_any d 1 10000 W)
  have B4 := hide (fun W => cobetween_any (y : Int) 0 200 W)
  rw [decide_eq_true (by omega), decide_eq_true (by omega)] at B1 B2 B3 B4
  simp only [Bool.and_self] at B1 B2 B3 B4
  have SC := hide (fun (x : Int) (hx : 0 ≤ x ∧ x ≤ 1125899906842624) W => scale_full x d (d + n) W (by omega) (by omega) (by omega) (by omega) (by omega) (by omega) (by omega))
  have SP := hide (fun (x : Int) (hx : 0 ≤ x ∧ x ≤ 1125899906842624) => scP hx hn hd)
  have BD := hide (fun k => pr_bd (c := c) hn.1 hd.1 hc.1 k)
  have X := (Own.start w).alloc #[.int .i64 0, .int .i64 0] 24
  have hr := X.r1
  have ws := IntWalk.i64_in (d + n) (by omega)
  obtain ⟨c0, c1⟩ := hc
  clear hn hd
  go_enter Tryd.func5, Tryd.ntmps5
  go_wp2_with fail
  refine (B1.out _).mono ?_
  rintro e w' ⟨rfl, rfl⟩
  go_wp2_with fail
  refine (B2.out _).mono ?_
  rintro e w' ⟨rfl, rfl⟩
  go_wp2_with fail
  refine (B3.out _).mono ?_
  rintro e w' ⟨rfl, rfl⟩
  go_wp2_with fail
  refine (B4.out _).mono ?_
  rintro e w' ⟨rfl, rfl⟩
  go_wp2
  have HX0 := hide (X.alloc #[.int .i64 c, .int .i64 c] 24)
  simp only [World.size_alloc] at HX0
  clear X hr B1 B2 B3 B4
  go_loopw [39] (fun v39 wr => ∃ k : Nat, k ≤ y ∧ v39 = .int .i64 (k : Int) ∧ Hid (Own w wr [(w.heap.size + 1, 24, #[.int .i64 (prL n d k c), .int .i64 (prU n d k c)]), (w.heap.size, 24, #[.int .i64 0, .int .i64 0])])) (fun v _ => y - (intOf v).toNat)
  case atStart => exact ⟨0, by omega, rfl, HX0⟩
  case round =>
    clear HX0
    obtain ⟨k, hk, rfl, HX⟩ := hrel
    have hr := HX.out.r2
    by_cases hlt : k < y
    · have g1 : decide (k < y) = true := decide_eq_true hlt
      obtain ⟨b1, b2, b3⟩ := BD.out k
      have S1 := hide (SC.out (prL n d k c) (by omega))
      have S2 := hide (SC.out (prU n d k c) (by omega))
      obtain ⟨z1, z2, z3⟩ := SP.out (prL n d k c) (by omega)
      obtain ⟨y1, y2, y3⟩ := SP.out (prU n d k c) (by omega)
      rw [z1, z2] at S1
      rw [y1, y3] at S2
      have EL : Hid (prL n d (k + 1) c = dn (prL n d k c * d) (d + n)) := hide rfl
      have EU : Hid (prU n d (k + 1) c = up (prU n d k c * d) (d + n)) := hide rfl
      generalize dn (prL n d k c * d) (d + n) = l1 at *
      generalize up (prU n d k c * d) (d + n) = u1 at *
      generalize scHi (prL n d k c) d (d + n) = j1 at *
      generalize scLo (prU n d k c) d (d + n) = j2 at *
      generalize prL n d k c = l0 at *
      generalize prU n d k c = u0 at *
      clear z1 z2 z3 y1 y2 y3 SC SP BD
      go_wp2_with fail
      refine (S1.out _).mono ?_
      rintro e w1 ⟨rfl, hb⟩
      replace HX := hide (HX.out.to hb)
      clear hr hb
      have hr := HX.out.r2
      go_wp2_with fail
      refine (S2.out _).mono ?_
      rintro e w2 ⟨rfl, hb⟩
      replace HX := hide (HX.out.to hb)
      clear hr hb
      have hr := HX.out.r2
      have HZ : Hid (Own w ((w2.setCell ⟨w.heap.size + 1, 0, none⟩ (.int .i64 l1)).setCell ⟨w.heap.size + 1, 1, none⟩ (.int .i64 u1)) [(w.heap.size + 1, 24, #[.int .i64 (prL n d (k + 1) c), .int .i64 (prU n d (k + 1) c)]), (w.heap.size, 24, #[.int .i64 0, .int .i64 0])]) := hide (by rw [EL.out, EU.out]; exact HX.out.put2 (by omega) (by simp) _ _)
      clear HX EL EU
      go_wp2
      go_roundw
      case rel => exact ⟨k + 1, by omega, by go_num, HZ⟩
      case measure => simp [intOf]; omega
    · obtain rfl : k = y := by omega
      have g1 : decide (k < k) = false := decide_eq_false (by omega)
      have XB := hide HX.out.1
      generalize prL n d k c = l0 at *
      generalize prU n d k c = u0 at *
      clear SC SP BD HX
      go_wp2
      exact bodyPost_ret (v := .tuple #[.agg #[.int .i64 l0, .int .i64 u0], .int .i64 0]) (by simp [results, Tryd.results5, hr, go_sem]) rfl ⟨rfl, by have HX := XB.out; have hz := HX.size; go_grown⟩
theorem copresent_any (c n d y : Int) (w : World) : Calls Tryd.prog 5 #[.int .i64 c, .int .i64 n, .int .i64 d, .int .i64 y] w (RetW (.tuple #[(prS c n d y).val, .int .i64 (prE c n d y)]) w) := by
  by_cases h : prB c n d y = true
  · obtain ⟨h1, h2, h3, h4, h5⟩ := prB_iff.1 h
    obtain ⟨k, rfl⟩ : ∃ k : Nat, y = (k : Int) := ⟨y.toNat, by omega⟩
    unfold prS prE
    rw [if_pos h, if_pos h]
    exact copresent_ok c n d k w h1 h2 h3 (by omega)
  · unfold prS prE
    rw [if_neg h, if_neg h]
    exact copresent_no c n d y w (by simpa using h)
/-- the cost of the first items -/
theorem csS_take {l : List Itm} {k : Nat} (h : k < l.length) : csS (l.take (k + 1)) = csS (l.take k) + l[k].am * l[k].pr := by
  rw [List.take_succ_eq_append_getElem h, csS_append]
  simp [csS]
theorem csS_tb {l : List Itm} (hv : vI l = true) (k : Nat) : -(1152921504606846976 * 1000) ≤ csS (l.take k) ∧ csS (l.take k) ≤ 1152921504606846976 * 1000 := by
  obtain ⟨h1, h2⟩ := vI_iff.1 hv
  have b := csS_bd (l.take k) fun x hx => h2 x (List.mem_of_mem_take hx)
  have : (l.take k).length ≤ 1000 := by rw [List.length_take]; omega
  omega
set_option maxHeartbeats 1000000 in
theorem cobill_no (l : List Itm) (A : Option Addr) (cap : Nat) (w : World) (hl : ItmSl w A l) (h : vI l = false) : Calls Tryd.prog 6 #[.slice A l.length cap] w (RetW (.tuple #[.int .i64 0, .int .i64 1]) w) := by
  have V := hide (fun W h => covalid_any l A cap W h)
  rw [h] at V
  unfold RetW at V
  have HL := hide hl
  clear hl h
  go_enter Tryd.func6, Tryd.ntmps6
  go_wp2_with fail
  refine (V.out _ HL.out).mono ?_
  rintro e w1 ⟨rfl, hb⟩
  go_wp2
  go_ret2
  exact ⟨rfl, hb⟩
set_option maxRecDepth 100000 in
set_option maxHeartbeats 4000000 in
theorem cobill_ok (l : List Itm) (A : Option Addr) (cap : Nat) (w : World) (hl : ItmSl w A l) (hv : vI l = true) : Calls Tryd.prog 6 #[.slice A l.length cap] w (RetW (.tuple #[.int .i64 (biV l), .int .i64 (biE l)]) w) := by
  have V := hide (fun W h => covalid_any l A cap W h)
  rw [hv] at V
  have WO := hide (fun W => wsof_any 0 W (by omega))
  have hlen : l.length ≤ 9223372036854775807 := by have := hl.1.1; unfold maxLen at this; omega
  have IT := hide (fun k (h : k < l.length) => (vI_iff.1 hv).2 l[k] (List.getElem_mem h))
  have SB := hide (fun k => csS_tb hv k)
  have WI := hide (fun W => wsint_any (csS l) W (by have := csS_tb hv l.length; rw [List.take_length] at this; exact ⟨by omega, by omega⟩))
  have ET : Hid (csS (l.take l.length) = csS l) := hide (by rw [List.take_length])
  have EE : Hid (biE l = if -1152921504606846976 ≤ csS l ∧ csS l ≤ 1152921504606846976 then 0 else 5) := hide (by unfold biE; rw [if_pos hv])
  have EV : Hid (biV l = if biE l = 0 then csS l else 0) := hide rfl
  have B1 := hide (fun (n : Int) W => cobetween_any n (-1152921504606846976) 1152921504606846976 W)
  unfold RetW at V WO WI
  have HL := hide hl
  clear hl hv
  go_enter Tryd.func6, Tryd.ntmps6
  go_wp2_with fail
  refine (V.out _ HL.out).mono ?_
  rintro e w1 ⟨rfl, hb⟩
  have X := (Own.start w).to hb
  clear hb
  go_wp2_with fail
  refine (WO.out _).mono ?_
  rintro e w2 ⟨rfl, hb⟩
  have hw2 : w.heap.size ≤ w2.heap.size := (X.to hb).1.size
  have HX0 := hide ((X.to hb).alloc #[.int .i64 ((0 : Int) / 1152921504606846976), .int .i64 ((0 : Int) % 1152921504606846976)] 50)
  clear X hb V WO
  go_wp2
  go_loopw [17] (fun v17 wr => ∃ k : Nat, k ≤ l.length ∧ v17 = .int .i64 (k : Int) ∧ Hid (Own w wr [(w2.heap.size, 50, #[.int .i64 (csS (l.take k) / 1152921504606846976), .int .i64 (csS (l.take k) % 1152921504606846976)])])) (fun v _ => l.length - (intOf v).toNat)
  case atStart => exact ⟨0, by omega, rfl, HX0⟩
  case round =>
    clear HX0
    obtain ⟨k, hk, rfl, HX⟩ := hrel
    by_cases hlt : k < l.length
    · have g1 : decide (k < l.length) = true := decide_eq_true hlt
      have g2 : (0 : Int) ≤ (k : Int) := by omega
      have g3 : (k : Int) < (l.length : Int) := by omega
      obtain ⟨b, off, rfl, hbl, hat⟩ := HL.out.2 (by omega)
      obtain ⟨c0, c1, c2⟩ := hat k hlt
      replace c0 := (HX.out.1.cell (p := ⟨b, off + k * 3, none⟩) hbl).trans c0
      replace c1 := (HX.out.1.cell (p := ⟨b, off + k * 3 + 1, none⟩) hbl).trans c1
      replace c2 := (HX.out.1.cell (p := ⟨b, off + k * 3 + 2, none⟩) hbl).trans c2
      have ES := hide (csS_take hlt)
      have s0 := SB.out k
      have s1 := SB.out (k + 1)
      rw [ES.out] at s1
      have it := IT.out k hlt
      obtain ⟨⟨i1, i2⟩, i3, i4⟩ := itB_bd it
      have ib := prod_bd it
      generalize l[k] = x at *
      have PD := hide (fun W => wsproduct_any x.am x.pr W (by omega) (by omega) ⟨by omega, by omega⟩)
      have AD := hide (fun W => wsadd_any (csS (l.take k)) (x.am * x.pr) W ⟨by omega, by omega⟩ ⟨by omega, by omega⟩ ⟨by omega, by omega⟩)
      unfold RetW WV at PD AD
      rw [← ES.out] at AD
      have EN : ∃ u v p1 p2 s1' s2' : Int, u = csS (l.take (k + 1)) / 1152921504606846976 ∧ v = csS (l.take (k + 1)) % 1152921504606846976 ∧ p1 = x.am * x.pr / 1152921504606846976 ∧ p2 = x.am * x.pr % 1152921504606846976 ∧ s1' = csS (l.take k) / 1152921504606846976 ∧ s2' = csS (l.take k) % 1152921504606846976 := ⟨_, _, _, _, _, _, rfl, rfl, rfl, rfl, rfl, rfl⟩
      obtain ⟨u, v, p1, p2, s1', s2', eu, ev, e1, e2, e3, e4⟩ := EN
      rw [← e1, ← e2] at PD AD
      rw [← e3, ← e4] at AD HX
      rw [← eu, ← ev] at AD
      replace eu := hide eu
      replace ev := hide ev
      clear e1 e2 e3 e4 ES s0 s1 it i1 i2 i3 i4 ib hat SB WI ET EE EV
      have hr := HX.out.r1
      have nb : ¬ b = wr.heap.size := by have := HX.out.1.size; omega
      go_wp2_with fail
      refine (PD.out _).mono ?_
      rintro e w3 ⟨rfl, hb⟩
      replace HX := hide (((HX.out.alloc #[.string x.nm, .int .i64 x.am, .int .i64 x.pr] 32).to hb).alloc #[.int .i64 p1, .int .i64 p2] 50)
      clear hb hr c0 c1 c2 nb
      have hr := HX.out.r3
      go_wp2_with fail
      refine (AD.out _).mono ?_
      rintro e w4 ⟨rfl, hb⟩
      have HY := hide (HX.out.to hb).tail.tail
      clear hb hr HX
      have hr := HY.out.r1
      have HZ : Hid (Own w ((w4.setCell ⟨w2.heap.size, 0, none⟩ (.int .i64 u)).setCell ⟨w2.heap.size, 1, none⟩ (.int .i64 v)) [(w2.heap.size, 50, #[.int .i64 (csS (l.take (k + 1)) / 1152921504606846976), .int .i64 (csS (l.take (k + 1)) % 1152921504606846976)])]) := hide (by rw [← eu.out, ← ev.out]; exact HY.out.put2 hw2 (by simp) _ _)
      clear HY
      go_wp2
      go_roundw
      case rel => exact ⟨k + 1, by omega, by go_num, HZ⟩
      case measure => simp [intOf]; omega
    · obtain rfl : k = l.length := by omega
      have g1 : decide (l.length < l.length) = false := decide_eq_false (by omega)
      rw [ET.out] at HX
      have hr := HX.out.r1
      unfold WV at WI
      generalize csS l = S at *
      obtain ⟨u, v, eu, ev⟩ : ∃ u v : Int, u = S / 1152921504606846976 ∧ v = S % 1152921504606846976 := ⟨_, _, rfl, rfl⟩
      rw [← eu, ← ev] at WI HX
      rw [← eu, ← ev] at hr
      clear eu ev SB IT
      by_cases hb0 : i64B S = true
      · have yy := i64_yes hb0
        rw [yy.1, yy.2] at WI
        have BN := hide (B1.out S)
        by_cases hS : -1152921504606846976 ≤ S ∧ S ≤ 1152921504606846976
        · have E0 : biE l = 0 := by rw [EE.out, if_pos hS]
          have V0 : biV l = S := by rw [EV.out, if_pos E0]
          have EZ := hide (And.intro E0 V0)
          rw [decide_eq_true hS.1, decide_eq_true hS.2] at BN
          clear hS hb0 yy E0 V0 EE EV
          go_wp2_with fail
          refine (WI.out _).mono ?_
          rintro e w3 ⟨rfl, hb⟩
          have XB := hide (HX.out.to hb).1
          clear hb hr HX
          go_wp2_with fail
          refine (BN.out _).mono ?_
          rintro e w' ⟨rfl, rfl⟩
          go_wp2
          go_ret2
          exact ⟨by rw [EZ.out.1, EZ.out.2]; rfl, XB.out⟩
        · have E0 : biE l = 5 := by rw [EE.out, if_neg hS]
          have V0 : biV l = 0 := by rw [EV.out, E0]; rfl
          have EZ := hide (And.intro E0 V0)
          have bf : (decide (-1152921504606846976 ≤ S) && decide (S ≤ 1152921504606846976)) = false := by
            cases h : (decide (-1152921504606846976 ≤ S) && decide (S ≤ 1152921504606846976)) with
            | false => rfl
            | true => exact absurd (by simpa using h) hS
          rw [bf] at BN
          clear hS hb0 yy E0 V0 EE EV bf
          go_wp2_with fail
          refine (WI.out _).mono ?_
          rintro e w3 ⟨rfl, hb⟩
          have XB := hide (HX.out.to hb).1
          clear hb hr HX
          go_wp2_with fail
          refine (BN.out _).mono ?_
          rintro e w' ⟨rfl, rfl⟩
          go_wp2
          go_ret2
          exact ⟨by rw [EZ.out.1, EZ.out.2]; rfl, XB.out⟩
      · have hb0 : i64B S = false := by simpa using hb0
        have yy := i64_no hb0
        rw [yy.1, yy.2] at WI
        have hS : ¬ (-1152921504606846976 ≤ S ∧ S ≤ 1152921504606846976) := fun h => by
          have : i64B S = true := i64B_iff.2 (by omega)
          rw [this] at hb0; cases hb0
        have E0 : biE l = 5 := by rw [EE.out, if_neg hS]
        have V0 : biV l = 0 := by rw [EV.out, E0]; rfl
        have EZ := hide (And.intro E0 V0)
        clear hS hb0 yy E0 V0 EE EV
        go_wp2_with fail
        refine (WI.out _).mono ?_
        rintro e w3 ⟨rfl, hb⟩
        have XB := hide (HX.out.to hb).1
        clear hb hr HX
        go_wp2
        go_ret2
        exact ⟨by rw [EZ.out.1, EZ.out.2]; rfl, XB.out⟩
theorem cobill_any (l : List Itm) (A : Option Addr) (cap : Nat) (w : World) (hl : ItmSl w A l) : Calls Tryd.prog 6 #[.slice A l.length cap] w (RetW (.tuple #[.int .i64 (biV l), .int .i64 (biE l)]) w) := by
  cases h : vI l with
  | true => exact cobill_ok l A cap w hl h
  | false =>
    have E0 : biE l = 1 := by unfold biE; rw [h]; rfl
    have V0 : biV l = 0 := by unfold biV; rw [E0]; rfl
    rw [E0, V0]
    exact cobill_no l A cap w hl h
end Go.Proofs.YtbmocghfpcfmhaaDoor

namespace Go.Proofs.YtbmocghfpcfmhaaDoor
open Go Go.RowKit

def awM : Msh := ⟨[⟨0, 0, 2000⟩, ⟨20000, 0, 2000⟩, ⟨0, 20000, 2000⟩], [⟨0, 1, 2, 0⟩]⟩
def awP : Pnt := ⟨1000, 1000⟩
def awQ : Pnt := ⟨17000, 1000⟩
def awL : List Itm := [⟨⟨#[97]⟩, 3, 5⟩, ⟨⟨#[98]⟩, -2, 7⟩]
theorem aw_pr : prE 1000 1 10 2 = 0 ∧ (prS 1000 1 10 2).val = .agg #[.int .i64 826, .int .i64 828] := by
  have h : prB 1000 1 10 2 = true := by decide
  unfold prE prS
  rw [if_pos h, if_pos h]
  exact ⟨rfl, rfl⟩
theorem aw_bi : biV awL = 1 ∧ biE awL = 0 := by decide +kernel
theorem aw_ds : dsS awP awQ = ⟨16000, 16000⟩ := by
  have e : sqD awP awQ = 256000000 := by decide +kernel
  have h : isq 256000000 = 16000 := isq_uniq (by omega) (by omega) (by omega) (by omega)
  unfold dsS isqU
  rw [e, h]; rfl
theorem aw_vM : vM awM = true := by decide +kernel
theorem aw_all : allL awM awP awQ 17 = true := by decide +kernel
theorem aw_sm : smL awM awP awQ 1000 1000 17 = 32000 ∧ smH awM awP awQ 1000 1000 17 = 32000 := by decide +kernel
theorem aw_trE : trE awM awP awQ 1000 1000 500 = 0 := by
  unfold trE gvE
  rw [aw_vM, aw_all]
  decide +kernel
theorem aw_tr : (trR awM awP awQ 1000 1000 500).val = .agg #[.int .i64 8000000, .int .i64 8000000] := by
  unfold trR
  rw [if_pos aw_trE]
  unfold trS
  rw [aw_sm.1, aw_sm.2, aw_ds]
  rfl
theorem ItmSl.of_own {w W : World} {b : Nat} {L : List (Nat × TypeId × Array Value)} (h : Own w W ((b, 32, #[.string ⟨#[97]⟩, .int .i64 3, .int .i64 5, .string ⟨#[98]⟩, .int .i64 (-2), .int .i64 7]) :: L)) : ItmSl W (some ⟨b, 0, none⟩) awL := by
  refine ⟨⟨by decide, fun i hi => ?_⟩, fun _ => ⟨b, 0, rfl, h.r1.2.2, fun i hi => ?_⟩⟩
  · have hi' : i < 2 := hi
    match i, hi' with
    | 0, _ => exact (by decide : (⟨#[97]⟩ : ByteArray).size ≤ maxLen)
    | 1, _ => exact (by decide : (⟨#[98]⟩ : ByteArray).size ≤ maxLen)
  · have hi' : i < 2 := hi
    match i, hi' with
    | 0, _ => exact ⟨h.r1.1 0, h.r1.1 1, h.r1.1 2⟩
    | 1, _ => exact ⟨h.r1.1 3, h.r1.1 4, h.r1.1 5⟩
theorem MshSl.of_own {w W : World} {bs bf : Nat} {L : List (Nat × TypeId × Array Value)} (h : Own w W ((bf, 38, #[.int .i64 0, .int .i64 1, .int .i64 2, .int .i64 0]) :: (bs, 35, #[.int .i64 0, .int .i64 0, .int .i64 2000, .int .i64 20000, .int .i64 0, .int .i64 2000, .int .i64 0, .int .i64 20000, .int .i64 2000]) :: L)) : MshSl W awM ⟨some ⟨bs, 0, none⟩, 3, some ⟨bf, 0, none⟩, 1⟩ := by
  refine ⟨⟨⟨by decide, fun i hi => ?_⟩, fun _ => ⟨bs, 0, rfl, h.r2.2.2.2, fun i hi => ?_⟩⟩, ⟨⟨by decide, fun i hi => ?_⟩, fun _ => ⟨bf, 0, rfl, h.r2.1.2.2, fun i hi => ?_⟩⟩⟩
  · have hi' : i < 3 := hi
    match i, hi' with
    | 0, _ => exact (by unfold i64; decide : i64 0 ∧ i64 0 ∧ i64 2000)
    | 1, _ => exact (by unfold i64; decide : i64 20000 ∧ i64 0 ∧ i64 2000)
    | 2, _ => exact (by unfold i64; decide : i64 0 ∧ i64 20000 ∧ i64 2000)
  · have hi' : i < 3 := hi
    match i, hi' with
    | 0, _ => exact ⟨h.r2.2.1 0, h.r2.2.1 1, h.r2.2.1 2⟩
    | 1, _ => exact ⟨h.r2.2.1 3, h.r2.2.1 4, h.r2.2.1 5⟩
    | 2, _ => exact ⟨h.r2.2.1 6, h.r2.2.1 7, h.r2.2.1 8⟩
  · have hi' : i < 1 := hi
    match i, hi' with
    | 0, _ => exact (by unfold i64; decide : i64 0 ∧ i64 1 ∧ i64 2 ∧ i64 0)
  · have hi' : i < 1 := hi
    match i, hi' with
    | 0, _ => exact ⟨h.r2.1.1 0, h.r2.1.1 1, h.r2.1.1 2, h.r2.1.1 3⟩
set_option maxRecDepth 100000 in
set_option maxHeartbeats 4000000 in
theorem awake48_any (w : World) (ht : Lib.TabIs Tryd.prog w "internal/strconv.uint64pow10" .u64 Lib.pow10Tab) : Calls Tryd.prog 4 #[] w (RetW (.bool true) w) := by
  have P := hide (fun W => copresent_any 1000 1 10 2 W)
  rw [aw_pr.1, aw_pr.2] at P
  have B := hide (fun W A c h => cobill_any awL A c W h)
  rw [aw_bi.1, aw_bi.2] at B
  have T := hide (fun W a h h' => cotrench_any awM a awP awQ 1000 1000 500 W h h')
  rw [aw_trE, aw_tr] at T
  unfold RetW at P B T
  have HT := hide ht
  have X := Own.start w
  clear ht
  go_enter Tryd.func4, Tryd.ntmps4
  go_wp2_with fail
  refine (P.out _).mono ?_
  rintro e w1 ⟨rfl, hb⟩
  replace X := ((X.to hb).alloc #[.int .i64 826, .int .i64 828] 24).alloc #[.string ⟨#[97]⟩, .int .i64 3, .int .i64 5, .string ⟨#[98]⟩, .int .i64 (-2), .int .i64 7] 32
  simp only [World.size_alloc] at X
  clear hb
  have hr := X.r2
  have IS := hide (ItmSl.of_own X)
  go_wp2_with fail
  refine (B.out _ _ 2 IS.out).mono ?_
  rintro e w2 ⟨rfl, hb⟩
  replace X := ((X.to hb).alloc #[.int .i64 0, .int .i64 0, .int .i64 2000, .int .i64 20000, .int .i64 0, .int .i64 2000, .int .i64 0, .int .i64 20000, .int .i64 2000] 35).alloc #[.int .i64 0, .int .i64 1, .int .i64 2, .int .i64 0] 38
  simp only [World.size_alloc] at X
  have MS0 := MshSl.of_own X
  have Y := X.alloc #[.slice (some ⟨w2.heap.size, 0, none⟩) 3 3, .slice (some ⟨w2.heap.size + 1, 0, none⟩) 1 1] 41
  simp only [World.size_alloc] at Y
  have MS := hide (MS0.below ((Below.refl _ _).alloc (Nat.le_refl _) (.cells #[.slice (some ⟨w2.heap.size, 0, none⟩) 3 3, .slice (some ⟨w2.heap.size + 1, 0, none⟩) 1 1] 41)))
  clear hb hr IS X MS0
  have hr := Y.r5
  have XB := hide Y.1
  go_wp2_with fail
  refine (T.out _ _ MS.out (tab_below HT.out XB.out)).mono ?_
  rintro e w3 ⟨rfl, hb⟩
  have Z := (Y.to hb).alloc #[.int .i64 8000000, .int .i64 8000000] 24
  have n1 : w2.heap.size + 1 + 1 < w3.heap.size := (Y.to hb).r1.2.2
  clear hb hr Y
  have hr := Z.r6
  have ZB := hide Z.1
  clear Z
  go_wp2
  go_ret
  exact ⟨rfl, ZB.out⟩
end Go.Proofs.YtbmocghfpcfmhaaDoor
