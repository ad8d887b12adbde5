/- The reference's quotients (sewershedref03): Down, Up, FloorOf, CeilOf: what each returns; nothing that was there is turned (printed by gen_rf3q.py). -/
import Derived.Test.YtgflgnbbkhikcaaDoorRf3N
import Derived.RegionTactic
namespace Go.Proofs.YtgflgnbbkhikcaaDoor
open Go.RowKit

/-- floor (x / y), of magnitudes and signs -/
def fdv (x y : Int) : Int := if x < 0 ↔ y < 0 then ((x.natAbs / y.natAbs : Nat) : Int) else -(((x.natAbs / y.natAbs) + (if x.natAbs % y.natAbs = 0 then 0 else 1) : Nat) : Int)
def cdv (x y : Int) : Int := -fdv (-x) y
theorem fdv_pos {x y : Int} (h : 0 < y) : fdv x y = x / y := by
  obtain ⟨Y, rfl⟩ : ∃ Y : Nat, y = (Y : Int) := ⟨y.toNat, by omega⟩
  have hY : ¬ ((Y : Int) < 0) := by omega
  have hY0 : 0 < Y := by omega
  unfold fdv
  by_cases hx : x < 0
  · obtain ⟨X, rfl⟩ : ∃ X : Nat, x = -(X : Int) := ⟨(-x).toNat, by omega⟩
    rw [if_neg (by simp only [hx, hY]; simp), Int.natAbs_neg, Int.natAbs_natCast, Int.natAbs_natCast]
    have e := Nat.div_add_mod X Y
    have m := Nat.mod_lt X hY0
    generalize X / Y = q at *
    generalize X % Y = r at *
    symm
    by_cases hr : r = 0
    · rw [if_pos hr]
      refine ((Int.ediv_emod_unique h (q := -((q + 0 : Nat) : Int)) (r := 0)).2 ⟨?_, by omega, by omega⟩).1
      subst hr; rw [← e]; simp only [Nat.add_zero, Int.natCast_mul]; grind
    · rw [if_neg hr]
      refine ((Int.ediv_emod_unique h (q := -((q + 1 : Nat) : Int)) (r := (Y : Int) - r)).2 ⟨?_, by omega, by omega⟩).1
      rw [← e, Int.natCast_add, Int.natCast_add, Int.natCast_mul]; grind
  · rw [if_pos (by simp only [hx, hY])]
    obtain ⟨X, rfl⟩ : ∃ X : Nat, x = (X : Int) := ⟨x.toNat, by omega⟩
    rw [Int.natAbs_natCast, Int.natAbs_natCast, Int.natCast_ediv]
theorem cdv_pos {x y : Int} (h : 0 < y) : cdv x y = -((-x) / y) := by unfold cdv; rw [fdv_pos h]
/-- a size, and the sign where the integer is not 0 -/
def NS (z : Int) (n : Nat) (s : Bool) : Prop := z.natAbs = n ∧ (z ≠ 0 → s = decide (z < 0))
theorem ZPost.ns {z : Int} {h l n : Nat} {s s' : Bool} {w w' : World} (hn : NS z n s) (hw : Wd h l n) (h' : s' = (s && !decide (h = 0 ∧ l = 0))) (hb : Below w.heap.size w w') : ZPost z w (.returned (Nd h l s')) w' :=
  ZPost.mk (by rw [hn.1]; exact hw) h' hn.2 hb
/-- the parts of a quotient: the same sign, or another one, with and without a rest -/
theorem fdv_cases (x y : Int) (Q R : Nat) (hQ : Q = x.natAbs / y.natAbs) (hR : R = x.natAbs % y.natAbs) :
    (decide (x < 0) = decide (y < 0) → NS (fdv x y) Q false) ∧ (decide (x < 0) ≠ decide (y < 0) → R = 0 → NS (fdv x y) Q true) ∧ (decide (x < 0) ≠ decide (y < 0) → R ≠ 0 → NS (fdv x y) (Q + 1) true) := by
  unfold fdv
  rw [← hQ, ← hR]
  refine ⟨fun h => ?_, fun h h' => ?_, fun h h' => ?_⟩
  · rw [if_pos (by simpa using h)]
    refine ⟨Int.natAbs_natCast _, fun _ => (decide_eq_false (by omega)).symm⟩
  · rw [if_neg (by simpa using h), if_pos h']
    refine ⟨by rw [Int.natAbs_neg]; rfl, fun hn => (decide_eq_true (by omega)).symm⟩
  · rw [if_neg (by simpa using h), if_neg h']
    refine ⟨by rw [Int.natAbs_neg]; rfl, fun hn => (decide_eq_true (by omega)).symm⟩
theorem fdv_small {X Y Q R : Nat} (hQ : X / Y = Q) (hR : X % Y = R) (hX : X < 340282366920938463463374607431768211456) (hz : R ≠ 0) : Q + 1 < 340282366920938463463374607431768211456 := by
  have : Y ≠ 1 := fun h => hz (by rw [← hR, h, Nat.mod_one])
  rcases Nat.eq_zero_or_pos Y with h | h
  · subst h; rw [Nat.div_zero] at hQ; omega
  · have h2 : X / Y ≤ X / 2 := Nat.div_le_div_left (by omega) (by omega)
    omega
theorem wd_eq {h l x y : Nat} (h1 : Wd h l x) (h2 : x = y) : Wd h l y := h2 ▸ h1
theorem wd_zero {h l x : Nat} (h1 : Wd h l x) : (h = 0 ∧ l = 0) ↔ x = 0 := by obtain ⟨_, _, h3⟩ := h1; omega
theorem wd_one {h l a b x : Nat} (h1 : Wd h l ((a * 18446744073709551616 + b + (0 * 18446744073709551616 + 1)) % 340282366920938463463374607431768211456)) (h2 : Wd a b x) (hx : x + 1 < 340282366920938463463374607431768211456) : Wd h l (x + 1) := by
  obtain ⟨p, q, r⟩ := h1
  obtain ⟨s, t, u⟩ := h2
  refine ⟨p, q, ?_⟩
  rw [r, Nat.zero_mul, Nat.zero_add, u, Nat.mod_eq_of_lt hx]
set_option maxRecDepth 100000 in
set_option maxHeartbeats 4000000 in
theorem r3down_ff (xh xl yh yl : Nat) (x y : Int) (w : World) (hx : Wd xh xl x.natAbs) (hy : Wd yh yl y.natAbs) (h0 : y ≠ 0) (sx : decide (x < 0) = false) (sy : decide (y < 0) = false) :
    Calls Tryd.prog 44 #[Nd xh xl false, Nd yh yl false] w (ZPost (fdv x y) w) := by
  have X := (((Own.start w).alloc #[.int .u64 (xh : Int), .int .u64 (xl : Int), .bool false] 59).alloc #[.int .u64 (yh : Int), .int .u64 (yl : Int), .bool false] 59).alloc #[.int .u64 0, .int .u64 0, .bool false] 59
  simp only [World.size_alloc] at X
  have D := hide (fun W => r3div_any xh xl yh yl W hx.1 hx.2.1 hy.1 hy.2.1 (by rw [hy.2.2]; omega))
  rw [hx.2.2, hy.2.2] at D
  have FC := hide (fdv_cases x y _ _ rfl rfl)
  rw [sx, sy] at FC
  have FC1 := hide (FC.out.1 rfl)
  clear FC
  have ZB := hide (show x.natAbs < 340282366920938463463374607431768211456 from by have := wd_lt hx.1 hx.2.1; have := hx.2.2; omega)
  clear hx hy h0 sx sy
  generalize hQ : x.natAbs / y.natAbs = Q at *
  generalize hR : x.natAbs % y.natAbs = R at *
  have QR := hide (And.intro hQ hR)
  clear hQ hR
  have hr := X.r3
  go_enter Tryd.func44, Tryd.ntmps44
  go_wp2_with fail
  refine (D.out _).mono ?_
  rintro e w1 ⟨⟨qh, ql, rh, rl, rfl, hq, hrr⟩, hb⟩
  have Z1 : w.heap.size + 1 + 1 < w1.heap.size := (X.to hb).r1.2.2
  replace X := ((X.to hb).alloc (Uc qh ql) 57).alloc (Uc rh rl) 57
  simp only [World.size_alloc] at X
  have HQ := hide hq
  have HR := hide hrr
  clear hb hr hq hrr
  have hr := X.r5
  go_wp2_with fail
  refine (r3made_any qh ql _ _).mono ?_
  rintro e w3 ⟨⟨s', rfl, hs⟩, hb⟩
  replace X := X.to hb
  have HG := hide hs
  clear hb hr hs
  have hr := X.r5
  go_wp2
  exact bodyPost_ret (v := Nd qh ql s') (by simp [results, Tryd.results44, hr, go_sem]) rfl (ZPost.ns FC1.out HQ.out (HG.out.trans (by first | rfl | simp)) (by have HX := X.1; have hz := HX.size; go_grown))
set_option maxRecDepth 100000 in
set_option maxHeartbeats 4000000 in
theorem r3down_tt (xh xl yh yl : Nat) (x y : Int) (w : World) (hx : Wd xh xl x.natAbs) (hy : Wd yh yl y.natAbs) (h0 : y ≠ 0) (sx : decide (x < 0) = true) (sy : decide (y < 0) = true) :
    Calls Tryd.prog 44 #[Nd xh xl true, Nd yh yl true] w (ZPost (fdv x y) w) := by
  have X := (((Own.start w).alloc #[.int .u64 (xh : Int), .int .u64 (xl : Int), .bool true] 59).alloc #[.int .u64 (yh : Int), .int .u64 (yl : Int), .bool true] 59).alloc #[.int .u64 0, .int .u64 0, .bool false] 59
  simp only [World.size_alloc] at X
  have D := hide (fun W => r3div_any xh xl yh yl W hx.1 hx.2.1 hy.1 hy.2.1 (by rw [hy.2.2]; omega))
  rw [hx.2.2, hy.2.2] at D
  have FC := hide (fdv_cases x y _ _ rfl rfl)
  rw [sx, sy] at FC
  have FC1 := hide (FC.out.1 rfl)
  clear FC
  have ZB := hide (show x.natAbs < 340282366920938463463374607431768211456 from by have := wd_lt hx.1 hx.2.1; have := hx.2.2; omega)
  clear hx hy h0 sx sy
  generalize hQ : x.natAbs / y.natAbs = Q at *
  generalize hR : x.natAbs % y.natAbs = R at *
  have QR := hide (And.intro hQ hR)
  clear hQ hR
  have hr := X.r3
  go_enter Tryd.func44, Tryd.ntmps44
  go_wp2_with fail
  refine (D.out _).mono ?_
  rintro e w1 ⟨⟨qh, ql, rh, rl, rfl, hq, hrr⟩, hb⟩
  have Z1 : w.heap.size + 1 + 1 < w1.heap.size := (X.to hb).r1.2.2
  replace X := ((X.to hb).alloc (Uc qh ql) 57).alloc (Uc rh rl) 57
  simp only [World.size_alloc] at X
  have HQ := hide hq
  have HR := hide hrr
  clear hb hr hq hrr
  have hr := X.r5
  go_wp2_with fail
  refine (r3made_any qh ql _ _).mono ?_
  rintro e w3 ⟨⟨s', rfl, hs⟩, hb⟩
  replace X := X.to hb
  have HG := hide hs
  clear hb hr hs
  have hr := X.r5
  go_wp2
  exact bodyPost_ret (v := Nd qh ql s') (by simp [results, Tryd.results44, hr, go_sem]) rfl (ZPost.ns FC1.out HQ.out (HG.out.trans (by first | rfl | simp)) (by have HX := X.1; have hz := HX.size; go_grown))
set_option maxRecDepth 100000 in
set_option maxHeartbeats 4000000 in
theorem r3down_ft (xh xl yh yl : Nat) (x y : Int) (w : World) (hx : Wd xh xl x.natAbs) (hy : Wd yh yl y.natAbs) (h0 : y ≠ 0) (sx : decide (x < 0) = false) (sy : decide (y < 0) = true) :
    Calls Tryd.prog 44 #[Nd xh xl false, Nd yh yl true] w (ZPost (fdv x y) w) := by
  have X := (((Own.start w).alloc #[.int .u64 (xh : Int), .int .u64 (xl : Int), .bool false] 59).alloc #[.int .u64 (yh : Int), .int .u64 (yl : Int), .bool true] 59).alloc #[.int .u64 0, .int .u64 0, .bool false] 59
  simp only [World.size_alloc] at X
  have D := hide (fun W => r3div_any xh xl yh yl W hx.1 hx.2.1 hy.1 hy.2.1 (by rw [hy.2.2]; omega))
  rw [hx.2.2, hy.2.2] at D
  have FC := hide (fdv_cases x y _ _ rfl rfl)
  rw [sx, sy] at FC
  replace FC := hide (FC.out.2.imp (fun h => h (by decide)) (fun h => h (by decide)))
  have ZB := hide (show x.natAbs < 340282366920938463463374607431768211456 from by have := wd_lt hx.1 hx.2.1; have := hx.2.2; omega)
  clear hx hy h0 sx sy
  generalize hQ : x.natAbs / y.natAbs = Q at *
  generalize hR : x.natAbs % y.natAbs = R at *
  have QR := hide (And.intro hQ hR)
  clear hQ hR
  have hr := X.r3
  go_enter Tryd.func44, Tryd.ntmps44
  go_wp2_with fail
  refine (D.out _).mono ?_
  rintro e w1 ⟨⟨qh, ql, rh, rl, rfl, hq, hrr⟩, hb⟩
  have Z1 : w.heap.size + 1 + 1 < w1.heap.size := (X.to hb).r1.2.2
  replace X := ((X.to hb).alloc (Uc qh ql) 57).alloc (Uc rh rl) 57
  simp only [World.size_alloc] at X
  have HQ := hide hq
  have HR := hide hrr
  clear hb hr hq hrr
  have hr := X.r5
  by_cases z : R = 0
  · obtain ⟨z1, z2⟩ := (wd_zero HR.out).2 z
    have zq : ((rh : Int) == 0) = true := by simp; omega
    have zq' : ((rl : Int) == 0) = true := by simp; omega
    clear z1 z2
    have NZ := hide (FC.out.1 z)
    clear z
    go_wp2_with fail
    refine (r3made_any qh ql _ _).mono ?_
    rintro e w3 ⟨⟨s', rfl, hs⟩, hb⟩
    replace X := X.to hb
    have HG := hide hs
    clear hb hr hs
    have hr := X.r5
    go_wp2
    exact bodyPost_ret (v := Nd qh ql s') (by simp [results, Tryd.results44, hr, go_sem]) rfl (ZPost.ns NZ.out HQ.out (HG.out.trans (by first | rfl | simp)) (by have HX := X.1; have hz := HX.size; go_grown))
  · have z' : (rh ≠ 0) ∨ (rh = 0 ∧ rl ≠ 0) := by
      have : ¬ (rh = 0 ∧ rl = 0) := fun k => z ((wd_zero HR.out).1 k)
      clear hr
      omega
    have NZ := hide (FC.out.2 z)
    have SM := hide (fdv_small QR.out.1 QR.out.2 ZB.out z)
    have P := hide (fun W => r3plus_any qh ql 0 1 W HQ.out.2.1 (by omega))
    clear z
    rcases z' with z | ⟨z0, z⟩
    · have zq : ((rh : Int) == 0) = false := by simp; omega
      clear z
      go_wp2_with fail
      refine (P.out _).mono ?_
      rintro e w2 ⟨⟨ph, pl, rfl, hp⟩, hb⟩
      have HP := hide hp
      have Y := (X.to hb).swap
      have X := (Y.setU (h' := ph) (l' := pl) (by omega) (by simp <;> omega)).swap
      clear hb hr hp zq
      have hr := Y.r5
      go_wp2_with fail
      refine (r3made_any ph pl _ _).mono ?_
      rintro e w3 ⟨⟨s', rfl, hs⟩, hb⟩
      replace X := X.to hb
      have HG := hide hs
      clear hb hr hs
      have hr := X.r5
      go_wp2
      exact bodyPost_ret (v := Nd ph pl s') (by simp [results, Tryd.results44, hr, go_sem]) rfl (ZPost.ns NZ.out (wd_one HP.out HQ.out SM.out) (HG.out.trans (by first | rfl | simp)) (by have HX := X.1; have hz := HX.size; go_grown))
    · have zr : ((rh : Int) == 0) = true := by simp; omega
      clear z0
      have zq : ((rl : Int) == 0) = false := by simp; omega
      clear z
      go_wp2_with fail
      refine (P.out _).mono ?_
      rintro e w2 ⟨⟨ph, pl, rfl, hp⟩, hb⟩
      have HP := hide hp
      have Y := (X.to hb).swap
      have X := (Y.setU (h' := ph) (l' := pl) (by omega) (by simp <;> omega)).swap
      clear hb hr hp zq zr
      have hr := Y.r5
      go_wp2_with fail
      refine (r3made_any ph pl _ _).mono ?_
      rintro e w3 ⟨⟨s', rfl, hs⟩, hb⟩
      replace X := X.to hb
      have HG := hide hs
      clear hb hr hs
      have hr := X.r5
      go_wp2
      exact bodyPost_ret (v := Nd ph pl s') (by simp [results, Tryd.results44, hr, go_sem]) rfl (ZPost.ns NZ.out (wd_one HP.out HQ.out SM.out) (HG.out.trans (by first | rfl | simp)) (by have HX := X.1; have hz := HX.size; go_grown))
set_option maxRecDepth 100000 in
set_option maxHeartbeats 4000000 in
theorem r3down_tf (xh xl yh yl : Nat) (x y : Int) (w : World) (hx : Wd xh xl x.natAbs) (hy : Wd yh yl y.natAbs) (h0 : y ≠ 0) (sx : decide (x < 0) = true) (sy : decide (y < 0) = false) :
    Calls Tryd.prog 44 #[Nd xh xl true, Nd yh yl false] w (ZPost (fdv x y) w) := by
  have X := (((Own.start w).alloc #[.int .u64 (xh : Int), .int .u64 (xl : Int), .bool true] 59).alloc #[.int .u64 (yh : Int), .int .u64 (yl : Int), .bool false] 59).alloc #[.int .u64 0, .int .u64 0, .bool false] 59
  simp only [World.size_alloc] at X
  have D := hide (fun W => r3div_any xh xl yh yl W hx.1 hx.2.1 hy.1 hy.2.1 (by rw [hy.2.2]; omega))
  rw [hx.2.2, hy.2.2] at D
  have FC := hide (fdv_cases x y _ _ rfl rfl)
  rw [sx, sy] at FC
  replace FC := hide (FC.out.2.imp (fun h => h (by decide)) (fun h => h (by decide)))
  have ZB := hide (show x.natAbs < 340282366920938463463374607431768211456 from by have := wd_lt hx.1 hx.2.1; have := hx.2.2; omega)
  clear hx hy h0 sx sy
  generalize hQ : x.natAbs / y.natAbs = Q at *
  generalize hR : x.natAbs % y.natAbs = R at *
  have QR := hide (And.intro hQ hR)
  clear hQ hR
  have hr := X.r3
  go_enter Tryd.func44, Tryd.ntmps44
  go_wp2_with fail
  refine (D.out _).mono ?_
  rintro e w1 ⟨⟨qh, ql, rh, rl, rfl, hq, hrr⟩, hb⟩
  have Z1 : w.heap.size + 1 + 1 < w1.heap.size := (X.to hb).r1.2.2
  replace X := ((X.to hb).alloc (Uc qh ql) 57).alloc (Uc rh rl) 57
  simp only [World.size_alloc] at X
  have HQ := hide hq
  have HR := hide hrr
  clear hb hr hq hrr
  have hr := X.r5
  by_cases z : R = 0
  · obtain ⟨z1, z2⟩ := (wd_zero HR.out).2 z
    have zq : ((rh : Int) == 0) = true := by simp; omega
    have zq' : ((rl : Int) == 0) = true := by simp; omega
    clear z1 z2
    have NZ := hide (FC.out.1 z)
    clear z
    go_wp2_with fail
    refine (r3made_any qh ql _ _).mono ?_
    rintro e w3 ⟨⟨s', rfl, hs⟩, hb⟩
    replace X := X.to hb
    have HG := hide hs
    clear hb hr hs
    have hr := X.r5
    go_wp2
    exact bodyPost_ret (v := Nd qh ql s') (by simp [results, Tryd.results44, hr, go_sem]) rfl (ZPost.ns NZ.out HQ.out (HG.out.trans (by first | rfl | simp)) (by have HX := X.1; have hz := HX.size; go_grown))
  · have z' : (rh ≠ 0) ∨ (rh = 0 ∧ rl ≠ 0) := by
      have : ¬ (rh = 0 ∧ rl = 0) := fun k => z ((wd_zero HR.out).1 k)
      clear hr
      omega
    have NZ := hide (FC.out.2 z)
    have SM := hide (fdv_small QR.out.1 QR.out.2 ZB.out z)
    have P := hide (fun W => r3plus_any qh ql 0 1 W HQ.out.2.1 (by omega))
    clear z
    rcases z' with z | ⟨z0, z⟩
    · have zq : ((rh : Int) == 0) = false := by simp; omega
      clear z
      go_wp2_with fail
      refine (P.out _).mono ?_
      rintro e w2 ⟨⟨ph, pl, rfl, hp⟩, hb⟩
      have HP := hide hp
      have Y := (X.to hb).swap
      have X := (Y.setU (h' := ph) (l' := pl) (by omega) (by simp <;> omega)).swap
      clear hb hr hp zq
      have hr := Y.r5
      go_wp2_with fail
      refine (r3made_any ph pl _ _).mono ?_
      rintro e w3 ⟨⟨s', rfl, hs⟩, hb⟩
      replace X := X.to hb
      have HG := hide hs
      clear hb hr hs
      have hr := X.r5
      go_wp2
      exact bodyPost_ret (v := Nd ph pl s') (by simp [results, Tryd.results44, hr, go_sem]) rfl (ZPost.ns NZ.out (wd_one HP.out HQ.out SM.out) (HG.out.trans (by first | rfl | simp)) (by have HX := X.1; have hz := HX.size; go_grown))
    · have zr : ((rh : Int) == 0) = true := by simp; omega
      clear z0
      have zq : ((rl : Int) == 0) = false := by simp; omega
      clear z
      go_wp2_with fail
      refine (P.out _).mono ?_
      rintro e w2 ⟨⟨ph, pl, rfl, hp⟩, hb⟩
      have HP := hide hp
      have Y := (X.to hb).swap
      have X := (Y.setU (h' := ph) (l' := pl) (by omega) (by simp <;> omega)).swap
      clear hb hr hp zq zr
      have hr := Y.r5
      go_wp2_with fail
      refine (r3made_any ph pl _ _).mono ?_
      rintro e w3 ⟨⟨s', rfl, hs⟩, hb⟩
      replace X := X.to hb
      have HG := hide hs
      clear hb hr hs
      have hr := X.r5
      go_wp2
      exact bodyPost_ret (v := Nd ph pl s') (by simp [results, Tryd.results44, hr, go_sem]) rfl (ZPost.ns NZ.out (wd_one HP.out HQ.out SM.out) (HG.out.trans (by first | rfl | simp)) (by have HX := X.1; have hz := HX.size; go_grown))
end Go.Proofs.YtgflgnbbkhikcaaDoor
