/- Parts of one proof, joined: The reference's Trench (sewershedref48): the volume, or the error; nothing that was there is turned. What a name is, said of lists of bytes: letters, digits, how many bytes at the beginning are those of a word. The program's IsName: it reports whether a string is a name, for every string; it leaves the world as it is. Items of bills in memory; slices.IndexFunc and slices.ContainsFunc at items; valid bills; nothing that was there is turned. -/
import Derived.Test.YtbmocghfpcfmhaaGreatDoorPkCostsTrenches21
import Derived.Test.YtbmocghfpcfmhaaGreatDoorPkCostsTrenches22
import Derived.Test.YtbmocghfpcfmhaaGreatDoorPkCostsTrenches2
namespace Go.Proofs.YtbmocghfpcfmhaaGreatDoor
open Go Go.RowKit

set_option maxHeartbeats 400000 in
theorem r48pos_any (n : Int) (w : World) : Calls Tryz.prog 34 #[.int .i64 n] w fun e w' => e = .returned (.int .i64 (max 0 n)) ∧ w' = w := by
  by_cases h : n < 0
  · have g : decide (n < 0) = true := decide_eq_true h
    have e : max 0 n = 0 := by omega
    rw [e]
    clear e
    go_enter Tryz.func34, Tryz.ntmps34
    go_wp2
    go_ret
    exact ⟨rfl, rfl⟩
  · have g : decide (n < 0) = false := decide_eq_false h
    have e : max 0 n = n := by omega
    rw [e]
    clear e
    go_enter Tryz.func34, Tryz.ntmps34
    go_wp2
    go_ret
    exact ⟨rfl, rfl⟩
set_option maxHeartbeats 400000 in
theorem r48level_any (n : Int) (w : World) : Calls Tryz.prog 32 #[.int .i64 n] w fun e w' => e = .returned (.bool (lvlB n)) ∧ w' = w := by
  have E : Hid (lvlB n = (decide (-4194304 ≤ n) && decide (n ≤ 4194304))) := hide rfl
  have ways : decide (-4194304 ≤ n) = false ∨ decide (-4194304 ≤ n) = true := by cases decide (-4194304 ≤ n) <;> simp
  rcases ways with h | h
  all_goals
    go_enter Tryz.func32, Tryz.ntmps32
    go_wp2
    go_ret
    exact ⟨ret_bool (by rw [E.out]; simp [h]), rfl⟩
set_option maxHeartbeats 2000000 in
theorem rtrench_given (m : Msh) (a : MshA) (p q : Pnt) (u d wd : Int) (w : World) (hm : MshSl w m a) (E : Int) (hE : gvE m p q = E) (h0 : E ≠ 0) : Calls Tryz.prog 10 #[m.val a, p.val, q.val, .int .i64 u, .int .i64 d, .int .i64 wd] w (ErrP E w) := by
  have GV := hide (fun W h => r14given_any m a p q W h)
  rw [hE] at GV
  unfold RetW at GV
  have g0 : (E == 0) = false := beq_eq_false_iff_ne.2 h0
  have HM := hide hm
  obtain ⟨A1, c1, A2, c2⟩ := a
  have X := ((((Own.start w).alloc #[.slice A1 m.ss.length c1, .slice A2 m.fs.length c2] 25).alloc #[.int .i64 p.x, .int .i64 p.y] 27).alloc #[.int .i64 q.x, .int .i64 q.y] 27).alloc #[.int .i64 0, .int .i64 0] 31
  simp only [World.size_alloc] at X
  have hr := X.r4
  clear hm hE
  go_enter Tryz.func10, Tryz.ntmps10
  go_wp2_with fail
  refine (GV.out _ (HM.out.below X.1)).mono ?_
  rintro e w1 ⟨rfl, hb⟩
  replace X := X.to hb
  clear hr hb
  have hr := X.r4
  have XB := hide X.1
  go_wp2
  exact bodyPost_ret (v := .tuple #[.agg #[.int .i64 0, .int .i64 0], .int .i64 E]) (by simp [results, Tryz.results10, hr, go_sem]) rfl ⟨rfl, by have HX := XB.out; have hz := HX.size; go_grown⟩
set_option maxHeartbeats 4000000 in
theorem rtrench_range (m : Msh) (a : MshA) (p q : Pnt) (u d wd : Int) (w : World) (hm : MshSl w m a) (hE : gvE m p q = 0) (hr0 : rngB u d wd = false) : Calls Tryz.prog 10 #[m.val a, p.val, q.val, .int .i64 u, .int .i64 d, .int .i64 wd] w (ErrP 2 w) := by
  have GV := hide (fun W h => r14given_any m a p q W h)
  have L1 := hide (fun W => r48level_any u W)
  have L2 := hide (fun W => r48level_any d W)
  rw [hE] at GV
  unfold RetW at GV
  have ways : lvlB u = false ∨ (lvlB u = true ∧ lvlB d = false) ∨ (lvlB u = true ∧ lvlB d = true ∧ decide (wd < 1) = true) ∨ (lvlB u = true ∧ lvlB d = true ∧ decide (wd < 1) = false ∧ decide (10000 < wd) = true) := by
    unfold rngB widB at hr0
    cases h1 : lvlB u <;> cases h2 : lvlB d <;> simp [h1, h2] at hr0 ⊢
    omega
  generalize lvlB u = b1 at *
  generalize lvlB d = b2 at *
  have HM := hide hm
  obtain ⟨A1, c1, A2, c2⟩ := a
  have X := ((((Own.start w).alloc #[.slice A1 m.ss.length c1, .slice A2 m.fs.length c2] 25).alloc #[.int .i64 p.x, .int .i64 p.y] 27).alloc #[.int .i64 q.x, .int .i64 q.y] 27).alloc #[.int .i64 0, .int .i64 0] 31
  simp only [World.size_alloc] at X
  have hr := X.r4
  clear hm hE hr0
  rcases ways with rfl | ⟨rfl, rfl⟩ | ⟨rfl, rfl, y1⟩ | ⟨rfl, rfl, y1, y2⟩
  all_goals
    go_enter Tryz.func10, Tryz.ntmps10
    go_wp2_with fail
    refine (GV.out _ (HM.out.below X.1)).mono ?_
    rintro e w1 ⟨rfl, hb⟩
    replace X := X.to hb
    clear hr hb
    have hr := X.r4
    have XB := hide X.1
    go_wp2_with fail
    refine (L1.out _).mono ?_
    rintro e w' ⟨rfl, rfl⟩
    first
      | (go_wp2_with fail
         refine (L2.out _).mono ?_
         rintro e w' ⟨rfl, rfl⟩)
      | skip
    go_wp2
    exact bodyPost_ret (v := .tuple #[.agg #[.int .i64 0, .int .i64 0], .int .i64 2]) (by simp [results, Tryz.results10, hr, go_sem]) rfl ⟨rfl, by have HX := XB.out; have hz := HX.size; go_grown⟩
set_option maxHeartbeats 4000000 in
theorem rtrench_none (m : Msh) (a : MshA) (p q : Pnt) (u d wd : Int) (w : World) (hm : MshSl w m a) (hE : gvE m p q = 0) (hv : vM m = true) (hp : p.in) (hq : q.in) (hne : p ≠ q) (hr0 : rngB u d wd = true) (hl : allL m p q 17 = false) : Calls Tryz.prog 10 #[m.val a, p.val, q.val, .int .i64 u, .int .i64 d, .int .i64 wd] w (ErrP 12 w) := by
  have GV := hide (fun W h => r14given_any m a p q W h)
  have L1 := hide (fun W => r48level_any u W)
  have L2 := hide (fun W => r48level_any d W)
  have LV := hide (fun W h => r14levels_any m a p q W h hv hp hq hne)
  rw [hE] at GV
  unfold RetW at GV
  have e12 : lvE m p q = 12 := by unfold lvE; rw [hl]; rfl
  rw [e12] at LV
  unfold LvsPost at LV
  obtain ⟨r1, r2, r3, r4⟩ := rngB_iff.1 hr0
  have e1 : lvlB u = true := by simp [lvlB]; omega
  have e2 : lvlB d = true := by simp [lvlB]; omega
  rw [e1] at L1
  rw [e2] at L2
  have HM := hide hm
  obtain ⟨A1, c1, A2, c2⟩ := a
  have X := ((((Own.start w).alloc #[.slice A1 m.ss.length c1, .slice A2 m.fs.length c2] 25).alloc #[.int .i64 p.x, .int .i64 p.y] 27).alloc #[.int .i64 q.x, .int .i64 q.y] 27).alloc #[.int .i64 0, .int .i64 0] 31
  simp only [World.size_alloc] at X
  have hr := X.r4
  clear hm hE hr0 e1 e2 e12 hv hp hq hne hl
  go_enter Tryz.func10, Tryz.ntmps10
  go_wp2_with fail
  refine (GV.out _ (HM.out.below X.1)).mono ?_
  rintro e w1 ⟨rfl, hb⟩
  replace X := X.to hb
  clear hr hb
  have hr := X.r4
  go_wp2_with fail
  refine (L1.out _).mono ?_
  rintro e w' ⟨rfl, rfl⟩
  go_wp2_with fail
  refine (L2.out _).mono ?_
  rintro e w' ⟨rfl, rfl⟩
  go_wp2_with fail
  refine (LV.out _ (HM.out.below X.1)).mono ?_
  rintro e w4 ⟨hb, A, n, cap, rfl, hS⟩
  replace X := X.to hb
  clear hr hb hS
  have hr := X.r4
  have XB := hide X.1
  go_wp2
  exact bodyPost_ret (v := .tuple #[.agg #[.int .i64 0, .int .i64 0], .int .i64 12]) (by simp [results, Tryz.results10, hr, go_sem]) rfl ⟨rfl, by have HX := XB.out; have hz := HX.size; go_grown⟩
theorem ceil_pip (u d : Int) (k : Nat) : up (u * 16 + (d - u) * (k : Int)) 16 = u + pHi u d k ∧ (u * 16 + (d - u) * (k : Int)) / 16 = u + pLo u d k := by
  unfold pHi pLo up dn
  generalize (d - u) * (k : Int) = t
  simp only [show ¬ ((16 : Int) < 0) by omega, if_false]
  omega
set_option maxRecDepth 100000 in
set_option maxHeartbeats 8000000 in
theorem rtrench_ok (m : Msh) (a : MshA) (p q : Pnt) (u d wd : Int) (w : World) (hm : MshSl w m a) (hE : gvE m p q = 0) (hv : vM m = true) (hp : p.in) (hq : q.in) (hne : p ≠ q) (hr0 : rngB u d wd = true) (hl : allL m p q 17 = true) : Calls Tryz.prog 10 #[m.val a, p.val, q.val, .int .i64 u, .int .i64 d, .int .i64 wd] w (RetW (.tuple #[(trS m p q u d wd).val, .int .i64 0]) w) := by
  have GV := hide (fun W h => r14given_any m a p q W h)
  have L1 := hide (fun W => r48level_any u W)
  have L2 := hide (fun W => r48level_any d W)
  have LV := hide (fun W h => r14levels_any m a p q W h hv hp hq hne)
  have DI := hide (fun W => rdist_any p q W hp hq)
  rw [hE] at GV
  have e0 : lvE m p q = 0 := by unfold lvE; rw [hl]; rfl
  rw [e0] at LV
  unfold RetW at GV DI
  unfold LvsPost at LV
  obtain ⟨r1, r2, r3, r4⟩ := rngB_iff.1 hr0
  have e1 : lvlB u = true := by simp [lvlB]; omega
  have e2 : lvlB d = true := by simp [lvlB]; omega
  rw [e1] at L1
  rw [e2] at L2
  have GB := hide (fun k (hk : k < 17) => lvG_bd hv hl hk)
  have PB := hide (fun k (hk : k ≤ 16) => pip_bd r1 r2 hk)
  have SB := hide (fun k (hk : k ≤ 17) => sm_bd hv r1 r2 hl k hk hk)
  have db := dsS_bd hp hq
  obtain ⟨R, hR⟩ : ∃ R, R = trS m p q u d wd := ⟨_, rfl⟩
  have eLo : R.lo = dn (smL m p q u d 17 * wd * (dsS p q).lo) 32000 := by rw [hR, trS_lo, Int.mul_assoc, Int.mul_comm wd]
  have eHi : R.hi = up (smH m p q u d 17 * wd * (dsS p q).hi) 32000 := by rw [hR, trS_hi, Int.mul_assoc, Int.mul_comm wd]
  rw [← hR]
  have ER : Hid (R.val = .agg #[.int .i64 R.lo, .int .i64 R.hi]) := hide rfl
  rw [ER.out]
  have sb := SB.out 17 (by omega)
  have LWb : 0 ≤ smL m p q u d 17 * wd ∧ smL m p q u d 17 * wd ≤ 5704253440000 := ⟨Int.mul_nonneg sb.1 (by omega), by
    have := Int.mul_le_mul (show smL m p q u d 17 ≤ 570425344 by omega) r4 (by omega) (by omega); omega⟩
  have HWb : 0 ≤ smH m p q u d 17 * wd ∧ smH m p q u d 17 * wd ≤ 5704253440000 := ⟨Int.mul_nonneg (by omega) (by omega), by
    have := Int.mul_le_mul (show smH m p q u d 17 ≤ 570425344 by omega) r4 (by omega) (by omega); omega⟩
  have mulb : ∀ x y : Int, 0 ≤ x ∧ x ≤ 5704253440000 → 0 ≤ y ∧ y ≤ 67108864 → 0 ≤ x * y ∧ x * y ≤ 5704253440000 * 67108864 := fun x y hx hy => ⟨Int.mul_nonneg hx.1 hy.1, Int.mul_le_mul hx.2 hy.2 hy.1 (by omega)⟩
  have bl := mulb _ (dsS p q).lo LWb (by omega)
  have bh := mulb _ (dsS p q).hi HWb (by omega)
  have rl := dn_rng (n := smL m p q u d 17 * wd * (dsS p q).lo) (d := 32000) (z := 11962686510202880) (by omega) (by omega) (by omega)
  have rh := dn_rng (n := smH m p q u d 17 * wd * (dsS p q).hi) (d := 32000) (z := 11962686510202880) (by omega) (by omega) (by omega)
  have FL := hide (fun W => n3floorof (smL m p q u d 17 * wd) (dsS p q).lo 32000 W (by omega) (by omega) (by omega) (by omega) (decide_eq_true (by rw [fdv_dn (by omega)]; omega)))
  have CL := hide (fun W => n3ceilof (smH m p q u d 17 * wd) (dsS p q).hi 32000 W (by omega) (by omega) (by omega) (by omega) (decide_eq_true (by rw [cdv_up (by omega)]; omega)))
  rw [fdv_dn (by omega), ← eLo] at FL
  rw [cdv_up (by omega), ← eHi] at CL
  unfold One at FL CL
  have DS : Hid ((dsS p q).val = .agg #[.int .i64 (dsS p q).lo, .int .i64 (dsS p q).hi]) := hide rfl
  rw [DS.out] at DI
  have WL := hide (IntWalk.i64_in (smL m p q u d 17 * wd) (by omega))
  have WH := hide (IntWalk.i64_in (smH m p q u d 17 * wd) (by omega))
  have wl17 : Hid (∀ x, x = smL m p q u d 17 → IntKind.i64.wrap (x * wd) = smL m p q u d 17 * wd) := hide (fun x hx => by rw [hx]; exact WL.out)
  have wh17 : Hid (∀ x, x = smH m p q u d 17 → IntKind.i64.wrap (x * wd) = smH m p q u d 17 * wd) := hide (fun x hx => by rw [hx]; exact WH.out)
  generalize smL m p q u d 17 * wd = LW at *
  generalize smH m p q u d 17 * wd = HW at *
  generalize (dsS p q).lo = dlo at *
  generalize (dsS p q).hi = dhi at *
  have HM := hide hm
  obtain ⟨A1, c1, A2, c2⟩ := a
  have X := ((((Own.start w).alloc #[.slice A1 m.ss.length c1, .slice A2 m.fs.length c2] 25).alloc #[.int .i64 p.x, .int .i64 p.y] 27).alloc #[.int .i64 q.x, .int .i64 q.y] 27).alloc #[.int .i64 0, .int .i64 0] 31
  simp only [World.size_alloc] at X
  have hr := X.r4
  clear hm hE hr0 e1 e2 e0 hv hp hq hne hl eLo eHi ER DS db bl bh rl rh mulb WL WH sb LWb HWb hR
  go_enter Tryz.func10, Tryz.ntmps10
  go_wp2_with fail
  refine (GV.out _ (HM.out.below X.1)).mono ?_
  rintro e w1 ⟨rfl, hb⟩
  replace X := X.to hb
  clear hr hb
  have hr := X.r4
  go_wp2_with fail
  refine (L1.out _).mono ?_
  rintro e w' ⟨rfl, rfl⟩
  go_wp2_with fail
  refine (L2.out _).mono ?_
  rintro e w' ⟨rfl, rfl⟩
  go_wp2_with fail
  refine (LV.out _ (HM.out.below X.1)).mono ?_
  rintro e w4 ⟨hb, A, n, cap, rfl, hS⟩
  replace X := X.to hb
  clear hr hb
  have hr := X.r4
  obtain ⟨rfl, SL⟩ := hS (by trivial)
  have lG := lvL_len m p q 17
  have IG := hide (fun k (hk : k < 17) => (show (lvL m p q 17)[k]? = some (lvG m p q k) by simp [lvL, hk]))
  clear hS GV L1 L2 LV HM
  generalize lvL m p q 17 = G at *
  have HX := hide X
  have HSL := hide SL
  clear X SL
  go_wp2
  go_loopw [17, 18, 19] (fun v17 v18 v19 wr => ∃ k : Nat, k ≤ 17 ∧ v19 = .int .i64 (k : Int) ∧ v17 = .int .i64 (smL m p q u d k) ∧ v18 = .int .i64 (smH m p q u d k) ∧ Hid (Below w4.heap.size w4 wr)) (fun _ _ v _ => 17 - (intOf v).toNat)
  case atStart => exact ⟨0, by omega, rfl, rfl, rfl, hide (Below.refl _ _)⟩
  case round =>
    obtain ⟨k, hk, rfl, rfl, rfl, HB⟩ := hrel
    by_cases hlt : k < 17
    · have g1 : decide (k ≤ 16) = true := decide_eq_true (by omega)
      have g4 : (k : Int) ≤ 16 := by omega
      have g2 : (0 : Int) ≤ (k : Int) := by omega
      have g3 : (k : Int) < (G.length : Int) := by omega
      obtain ⟨b, off, rfl, hbl, hat⟩ := HSL.out.2 (by omega)
      obtain ⟨d0, d1⟩ := hat k (by omega)
      have eG : G[k]'(by omega) = lvG m p q k := by
        have := IG.out k hlt
        rw [List.getElem?_eq_getElem (by omega)] at this
        exact Option.some.inj this
      rw [eG] at d0 d1
      replace d0 := (HB.out.cell (p := ⟨b, off + k * 2, none⟩) hbl).trans d0
      replace d1 := (HB.out.cell (p := ⟨b, off + k * 2 + 1, none⟩) hbl).trans d1
      have hbl2 : b < wr.heap.size := Nat.lt_of_lt_of_le hbl HB.out.size
      have gb := GB.out k hlt
      obtain ⟨pb0, pb1, pb2, _⟩ := PB.out k (by omega)
      have sbk := SB.out k (by omega)
      have sbn := SB.out (k + 1) (by omega)
      obtain ⟨ec, ef⟩ := ceil_pip u d k
      have EL : Hid (smL m p q u d (k + 1) = smL m p q u d k + tms k * max 0 ((lvG m p q k).lo - u - pHi u d k)) := hide rfl
      have EH : Hid (smH m p q u d (k + 1) = smH m p q u d k + tms k * max 0 ((lvG m p q k).hi - u - pLo u d k)) := hide rfl
      have ET : Hid (tms k = if k = 0 ∨ k = 16 then 1 else 2) := hide rfl
      obtain ⟨sL, hsL⟩ : ∃ x, x = smL m p q u d (k + 1) := ⟨_, rfl⟩
      obtain ⟨sH, hsH⟩ : ∃ x, x = smH m p q u d (k + 1) := ⟨_, rfl⟩
      rw [← hsL] at EL sbn
      rw [← hsH] at EH sbn
      replace hsL := hide hsL
      replace hsH := hide hsH
      generalize smL m p q u d k = l0 at *
      generalize smH m p q u d k = h0 at *
      generalize lvG m p q k = s at *
      generalize pLo u d k = plo at *
      generalize pHi u d k = phi at *
      obtain ⟨X1, hX1⟩ : ∃ x, x = (d - u) * (k : Int) := ⟨_, rfl⟩
      rw [← hX1] at ec ef pb0
      have q1 : IntKind.i64.wrap (d - u) = d - u := IntWalk.i64_in _ (by omega)
      have q2 : IntKind.i64.wrap ((d - u) * (k : Int)) = X1 := by rw [← hX1]; exact IntWalk.i64_in _ (by omega)
      obtain ⟨N, hN⟩ : ∃ N, N = u * 16 + X1 := ⟨_, rfl⟩
      rw [← hN] at ec ef
      have q3 : IntKind.i64.wrap (u * 16) = u * 16 := IntWalk.i64_in _ (by omega)
      have q4 : IntKind.i64.wrap (u * 16 + X1) = N := by rw [← hN]; exact IntWalk.i64_in _ (by omega)
      have CE := hide (fun W => (rceil4_any N 16 W (by omega) (by omega)).mono fun _ _ ⟨h1, h2⟩ => And.intro h1 h2.symm)
      have FE := hide (fun W => (rfloor4_any N 16 W (by omega) (by omega)).mono fun _ _ ⟨h1, h2⟩ => And.intro h1 h2.symm)
      rw [ec] at CE
      rw [ef] at FE
      obtain ⟨cc, hcc⟩ : ∃ x, x = u + phi := ⟨_, rfl⟩
      obtain ⟨ff, hff⟩ : ∃ x, x = u + plo := ⟨_, rfl⟩
      rw [← hcc] at CE
      rw [← hff] at FE
      have q5 : IntKind.i64.wrap (s.lo - cc) = s.lo - cc := IntWalk.i64_in _ (by omega)
      have q6 : IntKind.i64.wrap (s.hi - ff) = s.hi - ff := IntWalk.i64_in _ (by omega)
      have PL := hide (fun W => (r48pos_any (s.lo - cc) W).mono fun _ _ ⟨h1, h2⟩ => And.intro h1 h2.symm)
      have PH := hide (fun W => (r48pos_any (s.hi - ff) W).mono fun _ _ ⟨h1, h2⟩ => And.intro h1 h2.symm)
      have eL : max 0 (s.lo - u - phi) = max 0 (s.lo - cc) := by rw [hcc]; omega
      have eH : max 0 (s.hi - u - plo) = max 0 (s.hi - ff) := by rw [hff]; omega
      have lb : 0 ≤ max 0 (s.lo - cc) ∧ max 0 (s.lo - cc) ≤ 33554432 := by omega
      have hb' : 0 ≤ max 0 (s.hi - ff) ∧ max 0 (s.hi - ff) ≤ 33554432 := by omega
      rw [eL] at EL
      rw [eH] at EH
      generalize max 0 (s.lo - cc) = ml at *
      generalize max 0 (s.hi - ff) = mh at *
      have ways2 : (((k : Int) == 0) = true ∧ Hid (sL = l0 + ml ∧ sH = h0 + mh)) ∨ (((k : Int) == 0) = false ∧ ((k : Int) == 16) = true ∧ Hid (sL = l0 + ml ∧ sH = h0 + mh)) ∨
          (((k : Int) == 0) = false ∧ ((k : Int) == 16) = false ∧ Hid (sL = l0 + 2 * ml ∧ sH = h0 + 2 * mh)) := by
        rw [EL.out, EH.out, ET.out]
        by_cases k0 : k = 0
        · exact .inl ⟨beq_iff_eq.2 (by omega), hide (by rw [if_pos (.inl k0)]; omega)⟩
        · by_cases k16 : k = 16
          · exact .inr (.inl ⟨beq_eq_false_iff_ne.2 (by omega), beq_iff_eq.2 (by omega), hide (by rw [if_pos (.inr k16)]; omega)⟩)
          · exact .inr (.inr ⟨beq_eq_false_iff_ne.2 (by omega), beq_eq_false_iff_ne.2 (by omega), hide (by rw [if_neg (by omega)]; omega)⟩)
      have q7 : IntKind.i64.wrap ml = ml := IntWalk.i64_in _ (by omega)
      have q8 : IntKind.i64.wrap mh = mh := IntWalk.i64_in _ (by omega)
      have q9 : IntKind.i64.wrap (2 * ml) = 2 * ml := IntWalk.i64_in _ (by omega)
      have q10 : IntKind.i64.wrap (2 * mh) = 2 * mh := IntWalk.i64_in _ (by omega)
      have q11 : IntKind.i64.wrap (l0 + ml) = l0 + ml := IntWalk.i64_in _ (by omega)
      have q12 : IntKind.i64.wrap (h0 + mh) = h0 + mh := IntWalk.i64_in _ (by omega)
      have q13 : IntKind.i64.wrap (l0 + 2 * ml) = l0 + 2 * ml := IntWalk.i64_in _ (by omega)
      have q14 : IntKind.i64.wrap (h0 + 2 * mh) = h0 + 2 * mh := IntWalk.i64_in _ (by omega)
      clear hat eG EL EH ET hX1 hN ec ef hcc hff eL eH gb pb0 pb1 pb2
      have NE : Nonempty (OwnW wr []) := ⟨⟨_, Own.start wr⟩⟩
      have D0 := fun x : OwnW wr [] => (x.own.1.cell (p := ⟨b, off + k * 2, none⟩) hbl2).trans d0
      have D1 := fun x : OwnW wr [] => (x.own.1.cell (p := ⟨b, off + k * 2 + 1, none⟩) hbl2).trans d1
      rcases ways2 with ⟨y1, EE⟩ | ⟨y1, y2, EE⟩ | ⟨y1, y2, EE⟩
      all_goals
        go_upto_region 17 with (fail)
        refine wp_region_own (w := wr) (L := []) (by kernel_rfl) (by kernel_rfl) (Own.start wr) ?_
        repeat (go_big_quiet_step ((rename_i y; first | with_reducible exact own_same (CE.out _) | with_reducible exact own_same (PL.out _))))
        refine wpQuiet_nil ?_
        rintro W2 ⟨⟨W2, HO⟩, rfl⟩
        have HO2 := hide HO
        clear HO
        go_upto_region 18 with (fail)
        refine wp_region_own (w := wr) (L := []) (by kernel_rfl) (by kernel_rfl) HO2.out ?_
        repeat (go_big_quiet_step ((rename_i y; first | with_reducible exact own_same (FE.out _) | with_reducible exact own_same (PH.out _))))
        refine wpQuiet_nil ?_
        rintro W3 ⟨⟨W3, HO⟩, rfl⟩
        have HB3 := hide (below_via HB.out HB.out.size HO.1)
        clear HO HO2 NE D0 D1
        go_wp2
        go_roundw
        case rel => exact ⟨k + 1, by omega, by go_num, by rw [← hsL.out, EE.out.1], by rw [← hsH.out, EE.out.2], HB3⟩
        case measure => simp [intOf]; omega
    · obtain rfl : k = 17 := by omega
      have g1 : decide (17 ≤ 16) = false := by decide
      have vl := wl17.out _ rfl
      have vh := wh17.out _ rfl
      have X2 := hide (HX.out.to HB.out)
      clear wl17 wh17 HX GB PB SB IG lG
      generalize smL m p q u d 17 = l0 at *
      generalize smH m p q u d 17 = h0 at *
      have hr := X2.out.r4
      go_wp2_with fail
      refine (DI.out _).mono ?_
      rintro e w5 ⟨rfl, hb⟩
      have X3 := hide ((X2.out.to hb).alloc #[.int .i64 dlo, .int .i64 dhi] 31)
      have n0 : w.heap.size + 1 + 1 + 1 < w5.heap.size := (X2.out.to hb).r1.2.2
      clear hb hr X2
      have hr := X3.out.r5
      have NE := ownw_ne X3.out
      have C1 := fun x : OwnW w [(w5.heap.size, 31, #[.int .i64 dlo, .int .i64 dhi]), (w.heap.size + 1 + 1 + 1, 31, #[.int .i64 0, .int .i64 0]), (w.heap.size + 1 + 1, 27, #[.int .i64 q.x, .int .i64 q.y]), (w.heap.size + 1, 27, #[.int .i64 p.x, .int .i64 p.y]), (w.heap.size, 25, #[.slice A1 m.ss.length c1, .slice A2 m.fs.length c2])] => x.own.r5
      go_upto_region 20 with (fail)
      refine wp_region_own_tail (w := w) 12 (by kernel_rfl) (by kernel_rfl) X3.out ?_
      simp only [List.take_succ_cons, List.take_zero, List.drop_succ_cons, List.drop_zero]
      repeat (go_big_quiet_step ((rename_i y; first | with_reducible exact own_call (FL.out _) | with_reducible exact own_call (CL.out _))))
      refine wpQuiet_nil ?_
      rintro W ⟨⟨W, HO⟩, rfl⟩
      have hr := HO.r5
      have XB := hide HO.1
      clear NE C1 X3 HO
      go_wp2
      exact bodyPost_ret (v := .tuple #[.agg #[.int .i64 R.lo, .int .i64 R.hi], .int .i64 0]) (by simp [results, Tryz.results10, hr, go_sem]) rfl ⟨rfl, by have HX := XB.out; have hz := HX.size; go_grown⟩
theorem rtrench_any (m : Msh) (a : MshA) (p q : Pnt) (u d wd : Int) (w : World) (hm : MshSl w m a) : Calls Tryz.prog 10 #[m.val a, p.val, q.val, .int .i64 u, .int .i64 d, .int .i64 wd] w (RetW (.tuple #[(trR m p q u d wd).val, .int .i64 (trE m p q u d wd)]) w) := by
  by_cases hE : gvE m p q = 0
  case neg =>
    have e : trE m p q u d wd = gvE m p q := by simp [trE, hE]
    have e2 : trR m p q u d wd = Sp.zero := by simp [trR, e, hE]
    rw [e, e2]
    exact rtrench_given m a p q u d wd w hm _ rfl hE
  have hE' := hE
  unfold gvE at hE'
  by_cases hc : (vM m && inP p && inP q) = true
  case neg => rw [if_neg hc] at hE'; cases hE'
  rw [if_pos hc] at hE'
  have hne : p ≠ q := fun h => by rw [if_pos h] at hE'; cases hE'
  simp only [Bool.and_eq_true] at hc
  obtain ⟨⟨hv, hp⟩, hq⟩ := hc
  by_cases hr : rngB u d wd = true
  case neg =>
    have hr : rngB u d wd = false := by simpa using hr
    have e : trE m p q u d wd = 2 := by simp [trE, hE, hr]
    have e2 : trR m p q u d wd = Sp.zero := by simp [trR, e]
    rw [e, e2]
    exact rtrench_range m a p q u d wd w hm hE hr
  by_cases hl : allL m p q 17 = true
  case neg =>
    have hl : allL m p q 17 = false := by simpa using hl
    have e : trE m p q u d wd = 12 := by simp [trE, hE, hr, hl]
    have e2 : trR m p q u d wd = Sp.zero := by simp [trR, e]
    rw [e, e2]
    exact rtrench_none m a p q u d wd w hm hE hv (inP_iff.1 hp) (inP_iff.1 hq) hne hr hl
  have e : trE m p q u d wd = 0 := by simp [trE, hE, hr, hl]
  have e2 : trR m p q u d wd = trS m p q u d wd := by simp [trR, e]
  rw [e, e2]
  exact rtrench_ok m a p q u d wd w hm hE hv (inP_iff.1 hp) (inP_iff.1 hq) hne hr hl
end Go.Proofs.YtbmocghfpcfmhaaGreatDoor

namespace Go.Proofs.YtbmocghfpcfmhaaGreatDoor
open Go.RowKit

def letB (c : Int) : Bool := decide ((97 ≤ c ∧ c ≤ 122) ∨ (65 ≤ c ∧ c ≤ 90))
def digB (c : Int) : Bool := decide (48 ≤ c ∧ c ≤ 57)
def wdB (c : Int) : Bool := letB c || digB c || c == 95
/-- how many bytes at the beginning are those of a word -/
def wl (l : List UInt8) : Nat := (l.takeWhile fun b => wdB (b.toNat : Int)).length
/-- whether a list of bytes is a name -/
def nameB (l : List UInt8) : Bool :=
  match l with
  | [] => false
  | c :: r => decide (r.length + 1 ≤ 20) && letB (c.toNat : Int) && decide (wl (c :: r) = r.length + 1)
theorem wl_le (l : List UInt8) : wl l ≤ l.length := by unfold wl; exact (List.takeWhile_sublist _).length_le
theorem wl_nil : wl [] = 0 := rfl
theorem wl_cons (c : UInt8) (l : List UInt8) : wl (c :: l) = if wdB (c.toNat : Int) = true then wl l + 1 else 0 := by
  unfold wl
  by_cases h : wdB (c.toNat : Int) = true <;> simp [h]
theorem drop_byte (s : ByteArray) (k : Nat) (h : k < s.size) : s.data.toList.drop k = s[k] :: s.data.toList.drop (k + 1) := by
  rw [List.drop_eq_getElem_cons (by simpa using h)]; rfl
theorem wl_at (s : ByteArray) (k : Nat) (h : k < s.size) (hk : wl s.data.toList = k + wl (s.data.toList.drop k)) :
    if wdB (s[k].toNat : Int) = true then wl s.data.toList = k + 1 + wl (s.data.toList.drop (k + 1)) else wl s.data.toList = k := by
  rw [drop_byte s k h, wl_cons] at hk
  split <;> rename_i hw
  · rw [if_pos hw] at hk; omega
  · rw [if_neg hw] at hk; omega
theorem wl_end (s : ByteArray) (hk : wl s.data.toList = s.size + wl (s.data.toList.drop s.size)) : wl s.data.toList = s.size := by
  rw [List.drop_of_length_le (by simp), wl_nil] at hk; exact hk
theorem nameB_nil (s : ByteArray) (h : s.size = 0) : nameB s.data.toList = false := by
  have : s.data.toList = [] := by apply List.eq_nil_of_length_eq_zero; simpa using h
  rw [this]; rfl
theorem nameB_at (s : ByteArray) (h : 0 < s.size) : nameB s.data.toList = (decide (s.size ≤ 20) && letB (s[0].toNat : Int) && decide (wl s.data.toList = s.size)) := by
  have h0 := drop_byte s 0 h
  rw [List.drop_zero] at h0
  have hl : s.size = (s.data.toList.drop (0 + 1)).length + 1 := by simp; omega
  have e : nameB s.data.toList = nameB (s[0] :: s.data.toList.drop (0 + 1)) := by rw [← h0]
  rw [e]
  have hw : wl s.data.toList = wl (s[0] :: s.data.toList.drop (0 + 1)) := by rw [← h0]
  rw [hw, hl]
  rfl
theorem size_of_nameB (s : ByteArray) (h : nameB s.data.toList = true) : 0 < s.size ∧ s.size ≤ 20 := by
  by_cases h0 : s.size = 0
  · rw [nameB_nil s h0] at h; cases h
  · rw [nameB_at s (by omega)] at h
    simp only [Bool.and_eq_true, decide_eq_true_eq] at h
    omega
theorem byte_bd (c : UInt8) : 0 ≤ (c.toNat : Int) ∧ (c.toNat : Int) ≤ 255 := by have := c.toNat_lt; omega
end Go.Proofs.YtbmocghfpcfmhaaGreatDoor

namespace Go.Proofs.YtbmocghfpcfmhaaGreatDoor
open Go.RowKit

set_option maxHeartbeats 400000 in
theorem letter_any (c : Int) (w : World) : Calls Tryz.prog 128 #[.int .u8 c] w fun e w' => e = .returned (.bool (letB c)) ∧ w = w' := by
  by_cases h1 : 97 ≤ c <;> by_cases h2 : c ≤ 122 <;> by_cases h3 : 65 ≤ c <;> by_cases h4 : c ≤ 90
  all_goals
    go_enter Tryz.func128, Tryz.ntmps128
    go_wp2
    go_ret
    refine ⟨ret_bool ?_, rfl⟩
    simp [letB, h1, h2, h3, h4]
set_option maxHeartbeats 400000 in
theorem digit_any (c : Int) (w : World) : Calls Tryz.prog 147 #[.int .u8 c] w fun e w' => e = .returned (.bool (digB c)) ∧ w = w' := by
  by_cases h1 : 48 ≤ c <;> by_cases h2 : c ≤ 57
  all_goals
    go_enter Tryz.func147, Tryz.ntmps147
    go_wp2
    go_ret
    refine ⟨ret_bool ?_, rfl⟩
    simp [digB, h1, h2]
theorem wd_let {c : Int} (h : letB c = true) : wdB c = true := by simp [wdB, h]
theorem wd_dig {c : Int} (h2 : digB c = true) : wdB c = true := by simp [wdB, h2]
theorem wd_und {c : Int} (h : letB c = false) (h2 : digB c = false) : wdB c = (c == 95) := by simp [wdB, h, h2]

set_option maxHeartbeats 1000000 in
theorem word_any (s : ByteArray) (w : World) (hs : s.size ≤ maxLen) :
    Calls Tryz.prog 129 #[.string s] w fun e w' => e = .returned (.int .i64 (wl s.data.toList)) ∧ w = w' := by
  unfold maxLen at hs
  go_enter Tryz.func129, Tryz.ntmps129
  go_wp2
  go_loop [3] (fun i => ∃ k : Nat, k ≤ s.size ∧ i = .int .i64 k ∧ Hid (wl s.data.toList = k + wl (s.data.toList.drop k))) (fun i => s.size - (intOf i).toNat)
  case atStart => exact ⟨0, Nat.zero_le _, rfl, hide (by simp)⟩
  case round =>
    obtain ⟨k, hk, rfl, hw⟩ := hrel
    by_cases hlt : k < s.size
    · have hat := hide (wl_at s k hlt hw.out)
      have hbd := byte_bd s[k]
      by_cases h1 : letB (s[k].toNat : Int) = true
      · have h1' := hide (wd_let h1)
        go_wp2_with (first | (go_at_call 128; refine (letter_any _ _).mono ?_; rintro e w' ⟨rfl, rfl⟩))
        go_round
        case rel => exact ⟨k + 1, by omega, by go_num, hide (by have := hat.out; rw [if_pos h1'.out] at this; omega)⟩
        case measure => simp [intOf]; omega
      · have h1 : letB (s[k].toNat : Int) = false := by simpa using h1
        by_cases h2 : digB (s[k].toNat : Int) = true
        · have h1' := hide (wd_dig h2)
          go_wp2_with (first | (go_at_call 128; refine (letter_any _ _).mono ?_; rintro e w' ⟨rfl, rfl⟩) | (go_at_call 147; refine (digit_any _ _).mono ?_; rintro e w' ⟨rfl, rfl⟩))
          go_round
          case rel => exact ⟨k + 1, by omega, by go_num, hide (by have := hat.out; rw [if_pos h1'.out] at this; omega)⟩
          case measure => simp [intOf]; omega
        · have h2 : digB (s[k].toNat : Int) = false := by simpa using h2
          have h3' := hide (wd_und h1 h2)
          by_cases h3 : ((s[k].toNat : Int) == 95) = true
          · have h3'' := hide h3
            go_wp2_with (first | (go_at_call 128; refine (letter_any _ _).mono ?_; rintro e w' ⟨rfl, rfl⟩) | (go_at_call 147; refine (digit_any _ _).mono ?_; rintro e w' ⟨rfl, rfl⟩))
            go_round
            case rel => exact ⟨k + 1, by omega, by go_num, hide (by have := hat.out; rw [if_pos (h3'.out.trans h3''.out)] at this; omega)⟩
            case measure => simp [intOf]; omega
          · have h3 : ((s[k].toNat : Int) == 95) = false := by simpa using h3
            have h3'' := hide h3
            go_wp2_with (first | (go_at_call 128; refine (letter_any _ _).mono ?_; rintro e w' ⟨rfl, rfl⟩) | (go_at_call 147; refine (digit_any _ _).mono ?_; rintro e w' ⟨rfl, rfl⟩))
            go_ret
            refine ⟨ret_int ?_, rfl⟩
            have := hat.out
            rw [if_neg (by rw [h3'.out, h3''.out]; simp)] at this
            omega
    · have he : k = s.size := by omega
      have hq := hide (wl_end s (he ▸ hw.out))
      clear he
      go_wp2
      go_ret
      refine ⟨ret_int ?_, rfl⟩
      have := hq.out
      omega
theorem empty_of {s : ByteArray} (h : s.size = 0) : (!s.toList.isEmpty) = false := by
  rw [ByteArray.toList_eq]
  have : s.data.toList = [] := by apply List.eq_nil_of_length_eq_zero; simpa using h
  rw [this]; rfl
theorem full_of {s : ByteArray} (h : 0 < s.size) : (!s.toList.isEmpty) = true := by
  rw [ByteArray.toList_eq]
  cases e : s.data.toList with
  | nil =>
    have h2 : s.data.toList.length = s.size := Array.length_toList
    rw [e] at h2; simp at h2; omega
  | cons => rfl
set_option maxHeartbeats 1000000 in
theorem isname_any (s : ByteArray) (w : World) (hs : s.size ≤ maxLen) :
    Calls Tryz.prog 82 #[.string s] w fun e w' => e = .returned (.bool (nameB s.data.toList)) ∧ w = w' := by
  have hs' := hs
  unfold maxLen at hs
  by_cases h0 : s.size = 0
  · have hn := hide (nameB_nil s h0)
    have he' := empty_of h0
    go_enter Tryz.func82, Tryz.ntmps82
    go_wp2
    go_ret
    exact ⟨ret_bool hn.out.symm, rfl⟩
  · have hn := hide (nameB_at s (by omega))
    have hp : 0 < s.size := by omega
    have he := full_of hp
    by_cases h1 : s.size ≤ 20 <;> by_cases h2 : letB (s[0].toNat : Int) = true
    all_goals
      go_enter Tryz.func82, Tryz.ntmps82
      go_wp2_with (first | (go_at_call 128; refine (letter_any _ _).mono ?_; rintro e w' ⟨rfl, rfl⟩) | (go_at_call 129; refine (word_any _ _ hs').mono ?_; rintro e w' ⟨rfl, rfl⟩))
      go_ret
      refine ⟨ret_bool ?_, rfl⟩
      rw [hn.out]
      simp [h1, h2]
    rw [Bool.eq_iff_iff]; simp; omega
end Go.Proofs.YtbmocghfpcfmhaaGreatDoor

namespace Go.Proofs.YtbmocghfpcfmhaaGreatDoor
open Go Go.RowKit

structure Itm where
  nm : ByteArray
  am : Int
  pr : Int
abbrev Itm.val (x : Itm) : Value := .agg #[.string x.nm, .int .i64 x.am, .int .i64 x.pr]
def ItmAt (w : World) (b o : Nat) (x : Itm) : Prop := w.cell? ⟨b, o, none⟩ = some (.string x.nm) ∧ w.cell? ⟨b, o + 1, none⟩ = some (.int .i64 x.am) ∧ w.cell? ⟨b, o + 2, none⟩ = some (.int .i64 x.pr)
/-- a slice of items that reads as a list -/
def ItmSl (w : World) (A : Option Addr) (l : List Itm) : Prop :=
  (l.length ≤ maxLen ∧ ∀ i (h : i < l.length), l[i].nm.size ≤ maxLen) ∧ (0 < l.length → ∃ b off, A = some ⟨b, off, none⟩ ∧ b < w.heap.size ∧ ∀ i (h : i < l.length), ItmAt w b (off + i * 3) l[i])
theorem ItmSl.below {w w' : World} {A : Option Addr} {l : List Itm} (h : ItmSl w A l) (hb : Below w.heap.size w w') : ItmSl w' A l :=
  ⟨h.1, fun hl => by
    obtain ⟨b, off, e, hlt, hat⟩ := h.2 hl
    have k := fun (i : Nat) => hb.cell (p := ⟨b, i, none⟩) hlt
    exact ⟨b, off, e, Nat.lt_of_lt_of_le hlt hb.size, fun i hi => ⟨(k _).trans (hat i hi).1, (k _).trans (hat i hi).2.1, (k _).trans (hat i hi).2.2⟩⟩⟩
theorem ItmSl.nil (w : World) (A : Option Addr) : ItmSl w A [] := ⟨⟨by simp, fun i h => by simp at h⟩, fun h => by simp at h⟩
def idxM (p : Itm → Bool) (l : List Itm) : Int := match l.findIdx? p with | some i => (i : Int) | none => -1
theorem idxM_no {p : Itm → Bool} {l : List Itm} (h : ∀ i (hi : i < l.length), p l[i] = false) : idxM p l = -1 := by
  have : l.findIdx? p = none := by
    rw [List.findIdx?_eq_none_iff]
    intro x hx
    obtain ⟨i, hi, rfl⟩ := List.mem_iff_getElem.1 hx
    exact h i hi
  simp [idxM, this]
theorem idxM_yes {p : Itm → Bool} {l : List Itm} {k : Nat} (hk : k < l.length) (h : ∀ i (hi : i < l.length), i < k → p l[i] = false) (hy : p l[k] = true) : idxM p l = k := by
  have : l.findIdx? p = some k := by
    rw [List.findIdx?_eq_some_iff_getElem]
    exact ⟨hk, hy, fun j hj => by rw [h j (by omega) hj]; simp⟩
  simp [idxM, this]
theorem any_idxM (p : Itm → Bool) (l : List Itm) : l.any p = decide (0 ≤ idxM p l) := by
  unfold idxM
  cases h : l.findIdx? p with
  | none =>
    rw [List.findIdx?_eq_none_iff] at h
    rw [Bool.eq_iff_iff]
    simp only [List.any_eq_true, decide_eq_true_eq]
    constructor
    · rintro ⟨x, hx, hp⟩
      rw [h x hx] at hp
      cases hp
    · intro h'
      omega
  | some i =>
    rw [List.findIdx?_eq_some_iff_getElem] at h
    obtain ⟨hi, hp, _⟩ := h
    rw [Bool.eq_iff_iff]
    simp only [List.any_eq_true, decide_eq_true_eq]
    exact ⟨fun _ => by omega, fun _ => ⟨l[i], List.getElem_mem hi, hp⟩⟩
set_option maxRecDepth 100000 in
set_option maxHeartbeats 2000000 in
theorem idxM_any (f : Nat) (q : Itm → Bool) (hf : ∀ (d : Itm) (W : World), d.nm.size ≤ maxLen → Calls Tryz.prog f #[d.val] W (RetW (.bool (q d)) W)) (hc : ∀ (d : Itm) (w : World), (callFunc f #[d.val]).run Tryz.prog w = .ok (.enter f #[d.val]) w) (l : List Itm) (A : Option Addr) (cap : Nat) (w : World) (hl : ItmSl w A l) :
    Calls Tryz.prog 80 #[.slice A l.length cap, .func (.func f) #[] #[]] w (RetW (.int .i64 (idxM q l)) w) := by
  have hlen : l.length ≤ 9223372036854775807 := by have := hl.1.1; unfold maxLen at this; omega
  have H := hide hl
  have CK := hide hf
  unfold RetW at CK
  clear hl hf
  go_enter Tryz.func80, Tryz.ntmps80
  go_wp2
  go_loopw [8] (fun v8 wr => ∃ k : Nat, k ≤ l.length ∧ v8 = .int .i64 k ∧ Hid (Below w.heap.size w wr) ∧ Hid (∀ i (hi : i < l.length), i < k → q l[i] = false)) (fun v8 _ => l.length - (intOf v8).toNat)
  case atStart => exact ⟨0, Nat.zero_le _, rfl, hide (Below.refl _ _), hide (fun _ _ h => by omega)⟩
  case round =>
    obtain ⟨k, hk, rfl, HW, hno⟩ := hrel
    by_cases hlt : k < l.length
    · obtain ⟨b, off, rfl, hbl, hat⟩ := (H.out.below HW.out).2 (by omega)
      obtain ⟨c0, c1, c2⟩ := hat k hlt
      have CKk := hide (fun W => CK.out l[k] W (H.out.1.2 k hlt))
      clear hat
      by_cases hs : q l[k] = true
      · have E := hide (idxM_yes (p := q) hlt (fun i hi hik => hno.out i hi hik) hs)
        rw [hs] at CKk
        clear hs
        generalize l[k] = o at *
        go_wp2_with fail
        refine (CKk.out _).mono ?_
        rintro e w' ⟨rfl, hb⟩
        go_wp2
        go_ret
        exact ⟨ret_int E.out.symm, below_via HW.out HW.out.size hb⟩
      · have hs : q l[k] = false := by simpa using hs
        have hno2 := hide (fun i (hi : i < l.length) (hik : i < k + 1) => (show q l[i] = false by
          by_cases e : i = k
          · subst e; exact hs
          · exact hno.out i hi (by omega)))
        rw [hs] at CKk
        clear hs
        generalize l[k] = o at *
        go_wp2_with fail
        refine (CKk.out _).mono ?_
        rintro e w' ⟨rfl, hb⟩
        have HW2 := hide (below_via HW.out HW.out.size hb)
        clear hb
        go_wp2
        go_roundw
        case rel => exact ⟨k + 1, by omega, by go_num, HW2, hno2⟩
        case measure => simp [intOf]; omega
    · go_wp2
      go_ret
      exact ⟨ret_int (idxM_no fun i hi => hno.out i hi (by omega)).symm, HW.out⟩
set_option maxHeartbeats 1000000 in
theorem contM_any (f : Nat) (q : Itm → Bool) (hf : ∀ (d : Itm) (W : World), d.nm.size ≤ maxLen → Calls Tryz.prog f #[d.val] W (RetW (.bool (q d)) W)) (hc : ∀ (d : Itm) (w : World), (callFunc f #[d.val]).run Tryz.prog w = .ok (.enter f #[d.val]) w) (l : List Itm) (A : Option Addr) (cap : Nat) (w : World) (hl : ItmSl w A l) :
    Calls Tryz.prog 42 #[.slice A l.length cap, .func (.func f) #[] #[]] w (RetW (.bool (l.any q)) w) := by
  have C := hide (idxM_any f q hf hc l A cap w hl)
  have H := hide (any_idxM q l)
  unfold RetW at C
  clear hf hl
  go_enter Tryz.func42, Tryz.ntmps42
  go_wp2_with fail
  refine C.out.mono ?_
  rintro e w' ⟨rfl, hb⟩
  go_wp2
  go_ret
  exact ⟨ret_bool H.out.symm, hb⟩
def amB (n : Int) : Bool := decide (-1073741824 ≤ n) && decide (n ≤ 1073741824)
def prcB (n : Int) : Bool := decide (0 ≤ n) && decide (n ≤ 1073741824)
/-- an item is right -/
def itB (x : Itm) : Bool := nameB x.nm.data.toList && amB x.am && prcB x.pr
def vI (l : List Itm) : Bool := decide (l.length ≤ 1000) && l.all itB
set_option maxHeartbeats 2000000 in
theorem covalid1_any (x : Itm) (w : World) (h : x.nm.size ≤ maxLen) : Calls Tryz.prog 81 #[x.val] w (RetW (.bool (!itB x)) w) := by
  have NB := hide (fun W => isname_any x.nm W h)
  have B1 := hide (fun W => cobetween_any x.am (-1073741824) 1073741824 W)
  have B2 := hide (fun W => cobetween_any x.pr 0 1073741824 W)
  have E : Hid (itB x = (nameB x.nm.data.toList && (decide (-1073741824 ≤ x.am) && decide (x.am ≤ 1073741824)) && (decide (0 ≤ x.pr) && decide (x.pr ≤ 1073741824)))) := hide rfl
  have X := (Own.start w).alloc #[.string x.nm, .int .i64 x.am, .int .i64 x.pr] 54
  have hr := X.r1
  clear h
  generalize nameB x.nm.data.toList = b0 at *
  generalize (decide (-1073741824 ≤ x.am) && decide (x.am ≤ 1073741824)) = b1 at *
  generalize (decide (0 ≤ x.pr) && decide (x.pr ≤ 1073741824)) = b2 at *
  have ways : b0 = false ∨ (b0 = true ∧ b1 = false) ∨ (b0 = true ∧ b1 = true) := by cases b0 <;> cases b1 <;> simp
  rcases ways with rfl | ⟨rfl, rfl⟩ | ⟨rfl, rfl⟩
  · go_enter Tryz.func81, Tryz.ntmps81
    go_wp2_with fail
    refine (NB.out _).mono ?_
    rintro e w' ⟨rfl, rfl⟩
    go_wp2
    go_ret
    exact ⟨ret_bool (by rw [E.out]; rfl), X.1⟩
  · go_enter Tryz.func81, Tryz.ntmps81
    go_wp2_with fail
    refine (NB.out _).mono ?_
    rintro e w' ⟨rfl, rfl⟩
    go_wp2_with fail
    refine (B1.out _).mono ?_
    rintro e w' ⟨rfl, rfl⟩
    go_wp2
    go_ret
    exact ⟨ret_bool (by rw [E.out]; rfl), X.1⟩
  · go_enter Tryz.func81, Tryz.ntmps81
    go_wp2_with fail
    refine (NB.out _).mono ?_
    rintro e w' ⟨rfl, rfl⟩
    go_wp2_with fail
    refine (B1.out _).mono ?_
    rintro e w' ⟨rfl, rfl⟩
    go_wp2_with fail
    refine (B2.out _).mono ?_
    rintro e w' ⟨rfl, rfl⟩
    go_wp2
    go_ret
    exact ⟨ret_bool (by rw [E.out]; simp), X.1⟩
set_option maxHeartbeats 1000000 in
theorem covalid_any (l : List Itm) (A : Option Addr) (cap : Nat) (w : World) (hl : ItmSl w A l) : Calls Tryz.prog 44 #[.slice A l.length cap] w (RetW (.bool (vI l)) w) := by
  have C := hide (contM_any 81 (fun x => !itB x) covalid1_any (fun d w => enters_of Tryz.func81 (by kernel_rfl) rfl _ w) l A cap w hl)
  have E : Hid ((!(l.any fun x => !itB x)) = l.all itB) := hide (by rw [List.any_eq_not_all_not]; simp)
  have EV : Hid (vI l = (decide (l.length ≤ 1000) && l.all itB)) := hide rfl
  have hlen : l.length ≤ 9223372036854775807 := by have := hl.1.1; unfold maxLen at this; omega
  unfold RetW at C
  clear hl
  generalize (l.any fun x => !itB x) = b at *
  generalize l.all itB = b2 at *
  generalize vI l = v at *
  by_cases h : l.length ≤ 1000
  · have g : decide (l.length ≤ 1000) = true := decide_eq_true h
    go_enter Tryz.func44, Tryz.ntmps44
    go_wp2_with fail
    refine C.out.mono ?_
    rintro e w' ⟨rfl, hb⟩
    go_wp2
    go_ret
    exact ⟨ret_bool (by rw [EV.out, g, E.out]; rfl), hb⟩
  · have g : decide (l.length ≤ 1000) = false := decide_eq_false h
    go_enter Tryz.func44, Tryz.ntmps44
    go_wp2
    go_ret
    exact ⟨ret_bool (by rw [EV.out, g]; rfl), Below.refl _ _⟩
end Go.Proofs.YtbmocghfpcfmhaaGreatDoor
