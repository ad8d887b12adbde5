/- The program's span, depth, Depth and Rate: the least span that contains the depth, or the rate, or the error; nothing that was there is turned. -/
import Derived.Test.YtnhimgabcljahaaGreatDoorItVal
import Derived.Test.YtnhimgabcljahaaGreatDoorItFind
import Derived.Test.YtnhimgabcljahaaGreatDoorWd
namespace Go.Proofs.YtnhimgabcljahaaGreatDoor
open Go.RowKit

abbrev Sv (lo hi : Int) : Value := .agg #[.int .i64 lo, .int .i64 hi]
def SpanPost (lo hi er : Int) (w : World) (e : Ending) (w' : World) : Prop := e = .returned (.tuple #[Sv lo hi, .int .i64 er]) ∧ Below w.heap.size w w'
theorem SpanPost.mk {lo hi er lo' hi' er' : Int} {w w' : World} (h1 : lo = lo') (h2 : hi = hi') (h3 : er = er') (hb : Below w.heap.size w w') : SpanPost lo hi er w (.returned (.tuple #[Sv lo' hi', .int .i64 er'])) w' := by subst h1 h2 h3; exact ⟨rfl, hb⟩
set_option maxHeartbeats 2000000 in
theorem span_any (a b c : Nat) (w : World) (h1 : a ≤ 9223372036854775807) (h2 : b ≤ 9223372036854775807) (hc : 0 < c) (hc' : c ≤ 9223372036854775807) (h : a * b < 1329227995784915872903807060280344576) (hq : a * b / c < 4611686018427387904) :
    Calls Tryz.prog 31 #[.int .i64 (a : Int), .int .i64 (b : Int), .int .i64 (c : Int)] w (SpanPost (((a * b : Nat) : Int) / (c : Int)) (cdiv ((a * b : Nat) : Int) (c : Int)) 0 w) := by
  have P := hide (fun W => wdproduct_any a b W h1 h2 h)
  have F := hide (fun W => wdfloor_any (a * b) c W h hc hc' hq)
  have C := hide (fun W => wdceil_any (a * b) c W h hc hc' hq)
  have E1 := hide (qud_down (a * b) c)
  have E2 := hide (qud_up (a * b) c hc)
  have X := (Own.start w).alloc #[.int .i64 0, .int .i64 0] 45
  clear h1 h2 hc hc' h hq
  rw [← E1.out, ← E2.out]
  clear E1 E2
  unfold Wv at *
  generalize qud (a * b) c false = ql at *
  generalize qud (a * b) c true = qh at *
  generalize a * b / 1152921504606846976 = p at *
  generalize a * b % 1152921504606846976 = r at *
  go_enter Tryz.func31, Tryz.ntmps31
  go_wp2_with fail
  refine (P.out _).mono ?_
  rintro e w1 ⟨rfl, hb⟩
  replace X := (X.to hb).alloc #[.int .i64 (p : Int), .int .i64 (r : Int)] 90
  clear hb
  have hr := X.r2
  go_wp2_with fail
  refine (F.out _).mono ?_
  rintro e w2 ⟨rfl, hb⟩
  replace X := X.to hb
  clear hb hr
  have hr := X.r2
  go_wp2_with fail
  refine (C.out _).mono ?_
  rintro e w3 ⟨rfl, hb⟩
  replace X := X.to hb
  clear hb hr
  have hr := X.r2
  go_wp2
  refine bodyPost_ret (v := .tuple #[Sv ql qh, .int .i64 0]) (by simp [results, Tryz.results31, hr, go_sem]) rfl (SpanPost.mk rfl rfl rfl ?_)
  exact below_set (below_set X.1 (by omega) _) (by omega) _
theorem TabSl.parts {w : World} {T : Tab} {A1 A2 A3 : Option Addr} {k1 k2 k3 : Nat} (h : TabSl w T ⟨A1, A2, A3, k1, k2, k3⟩) : IntSl w A1 T.ds ∧ IntSl w A2 T.ps ∧ RowsSl w A3 T.rows := ⟨h.1, h.2.1, h.2.2.1⟩
theorem small_d {T : Tab} (v : VT T) : SmallL T.ds := v.dB
theorem small_p {T : Tab} (v : VT T) : SmallL T.ps := fun i hi => by have := v.pB i hi; omega
def DepPost (T : Tab) (x y : Int) (w : World) (e : Ending) (w' : World) : Prop :=
  (inT T x y → e = .returned (.tuple #[.int .i64 (nT T x y), .int .i64 (dT T x y), .bool true])) ∧ (¬ inT T x y → e = .returned (.tuple #[.int .i64 0, .int .i64 0, .bool false])) ∧ Below w.heap.size w w'
theorem DepPost.yes {T : Tab} {x y n d : Int} {w w' : World} (h : inT T x y) (h1 : nT T x y = n) (h2 : dT T x y = d) (hb : Below w.heap.size w w') : DepPost T x y w (.returned (.tuple #[.int .i64 n, .int .i64 d, .bool true])) w' := by subst h1 h2; exact ⟨fun _ => rfl, fun k => absurd h k, hb⟩
theorem DepPost.no {T : Tab} {x y : Int} {w w' : World} (h : ¬ inT T x y) (hb : Below w.heap.size w w') : DepPost T x y w (.returned (.tuple #[.int .i64 0, .int .i64 0, .bool false])) w' := ⟨fun k => absurd k h, fun _ => rfl, hb⟩
theorem nT_parts (T : Tab) (x y : Int) : nT T x y = ((plc T.ps y).whole - (plc T.ps y).rest) * (((plc T.ds x).whole - (plc T.ds x).rest) * T.cell (plc T.ps y).lo (plc T.ds x).lo + (plc T.ds x).rest * T.cell (plc T.ps y).lo (plc T.ds x).hi) +
    (plc T.ps y).rest * (((plc T.ds x).whole - (plc T.ds x).rest) * T.cell (plc T.ps y).hi (plc T.ds x).lo + (plc T.ds x).rest * T.cell (plc T.ps y).hi (plc T.ds x).hi) := rfl
theorem dep_keep {w W : World} {xb yb b1 b2 o1 o2 o3 o4 : Nat} {t1 t2 : TypeId} {x0 x1 x2 x3 y0 y1 y2 y3 u0 u1 u2 u3 : Value} {L : List (Nat × TypeId × Array Value)} {p q : Prop}
    (X : Own w W ((yb, t1, #[y0, y1, y2, y3]) :: (xb, t2, #[x0, x1, x2, x3]) :: L)) (C : p ∧ q ∧ W.cell? ⟨b1, o1, none⟩ = some u0 ∧ W.cell? ⟨b1, o2, none⟩ = some u1 ∧ W.cell? ⟨b2, o3, none⟩ = some u2 ∧ W.cell? ⟨b2, o4, none⟩ = some u3) :
    W.cell? ⟨xb, 0, none⟩ = some x0 ∧ W.cell? ⟨xb, 1, none⟩ = some x1 ∧ W.cell? ⟨xb, 2, none⟩ = some x2 ∧ W.cell? ⟨xb, 3, none⟩ = some x3 ∧ W.cell? ⟨yb, 0, none⟩ = some y0 ∧ W.cell? ⟨yb, 1, none⟩ = some y1 ∧ W.cell? ⟨yb, 2, none⟩ = some y2 ∧ W.cell? ⟨yb, 3, none⟩ = some y3 ∧
      W.cell? ⟨b1, o1, none⟩ = some u0 ∧ W.cell? ⟨b1, o2, none⟩ = some u1 ∧ W.cell? ⟨b2, o3, none⟩ = some u2 ∧ W.cell? ⟨b2, o4, none⟩ = some u3 := by
  have r := X.r2
  exact ⟨r.2.1 0, r.2.1 1, r.2.1 2, r.2.1 3, r.1.1 0, r.1.1 1, r.1.1 2, r.1.1 3, C.2.2⟩
set_option maxRecDepth 100000 in
set_option maxHeartbeats 4000000 in
theorem depth_any (T : Tab) (a : TabA) (x y : Int) (w : World) (ht : TabSl w T a) (v : VT T) :
    Calls Tryz.prog 30 #[T.val a, .int .i64 x, .int .i64 y] w (DepPost T x y w) := by
  obtain ⟨A1, A2, A3, k1, k2, k3⟩ := a
  have X := (Own.start w).alloc #[.slice A1 T.ds.length k1, .slice A2 T.ps.length k2, .slice A3 T.rows.length k3] 25
  have HT := hide ht.parts
  have F1 := hide (fun W (h : IntSl W A1 T.ds) => find_any T.ds A1 k1 x W h v.dA v.d1 (by have := v.d2; omega) (small_d v))
  have F2 := hide (fun W (h : IntSl W A2 T.ps) => find_any T.ps A2 k2 y W h v.pA v.p1 (by have := v.p2; omega) (small_p v))
  have HV := hide v
  clear ht v
  by_cases hin : inT T x y
  · obtain ⟨i1, i2⟩ := hin
    have px := HV.out.px i1
    have py := HV.out.py i2
    have bx := px.bd
    have by' := py.bd
    have wx := HV.out.wx i1
    have wy := HV.out.wy i2
    have r1 := HV.out.row_bd i1 by'.2.2.2.1
    have r2 := HV.out.row_bd i1 py.1
    have c00 := HV.out.cB _ _ by'.2.2.2.1 bx.2.2.2.1
    have c01 := HV.out.cB _ _ by'.2.2.2.1 px.1
    have c10 := HV.out.cB _ _ py.1 bx.2.2.2.1
    have c11 := HV.out.cB _ _ py.1 px.1
    have q1 : fPl T.ds x = plc T.ds x := by unfold fPl; rw [if_pos i1]
    have q2 : fPl T.ps y = plc T.ps y := by unfold fPl; rw [if_pos i2]
    have NT := hide (nT_parts T x y)
    have DT : Hid (dT T x y = (plc T.ds x).whole * (plc T.ps y).whole) := rfl
    have IN := hide (And.intro i1 i2)
    have px1 := px.1
    have py1 := py.1
    have RW := hide (fun i (hi : i < T.ps.length) => HV.out.rw i hi)
    have RL := hide HV.out.rl
    unfold FindPost at F1 F2
    rw [q1] at F1
    rw [q2] at F2
    rw [i1] at F1
    rw [i2] at F2
    clear q1 q2 i1 i2 px py
    unfold Pl.val at r1 r2
    generalize plc T.ds x = P at *
    generalize plc T.ps y = Q at *
    obtain ⟨xl, xh, xr, xw⟩ := P
    obtain ⟨yl, yh, yr, yw⟩ := Q
    simp only at *
    -- the rows, and the numbers in them
    obtain ⟨ob, oo, rfl, hob, hrow⟩ := HT.out.2.2.2 (by rw [RL.out]; omega)
    obtain ⟨R1, s1, e1, hR1, _⟩ := hrow yl (by rw [RL.out]; omega)
    obtain ⟨R2, s2, e2, hR2, _⟩ := hrow yh (by rw [RL.out]; omega)
    have n1 := RW.out yl (by omega)
    have n2 := RW.out yh (by omega)
    obtain ⟨b1, o1, rfl, hb1, hat1⟩ := hR1.at_ (by omega)
    obtain ⟨b2, o2, rfl, hb2, hat2⟩ := hR2.at_ (by omega)
    have l00 : w.cell? ⟨b1, o1 + xl, none⟩ = some (.int .i64 (T.cell yl xl)) := hat1 xl (by omega)
    have l01 : w.cell? ⟨b1, o1 + xh, none⟩ = some (.int .i64 (T.cell yl xh)) := hat1 xh (by omega)
    have l10 : w.cell? ⟨b2, o2 + xl, none⟩ = some (.int .i64 (T.cell yh xl)) := hat2 xl (by omega)
    have l11 : w.cell? ⟨b2, o2 + xh, none⟩ = some (.int .i64 (T.cell yh xh)) := hat2 xh (by omega)
    rw [n1] at e1
    rw [n2] at e2
    have CELLS := hide (fun W (hB : Below w.heap.size w W) => And.intro ((hB.cell (p := ⟨ob, oo + yl, none⟩) hob).trans e1) (And.intro ((hB.cell (p := ⟨ob, oo + yh, none⟩) hob).trans e2) (And.intro ((hB.cell (p := ⟨b1, o1 + xl, none⟩) hb1).trans l00)
      (And.intro ((hB.cell (p := ⟨b1, o1 + xh, none⟩) hb1).trans l01) (And.intro ((hB.cell (p := ⟨b2, o2 + xl, none⟩) hb2).trans l10) ((hB.cell (p := ⟨b2, o2 + xh, none⟩) hb2).trans l11))))))
    clear hrow hR1 hR2 hat1 hat2 e1 e2 l00 l01 l10 l11 n1 n2
    generalize T.cell yl xl = u00 at *
    generalize T.cell yl xh = u01 at *
    generalize T.cell yh xl = u10 at *
    generalize T.cell yh xh = u11 at *
    have M1 := hide (fun W => mix_any ⟨xl, xh, xr, xw⟩ u00 u01 4194304 W ⟨by simp only; omega, by simp only; omega, by omega, by simp only; omega, by simp only; omega⟩ c00.1 c00.2 c01.1 c01.2)
    have M2 := hide (fun W => mix_any ⟨xl, xh, xr, xw⟩ u10 u11 4194304 W ⟨by simp only; omega, by simp only; omega, by omega, by simp only; omega, by simp only; omega⟩ c10.1 c10.2 c11.1 c11.2)
    have M3 := hide (fun W => mix_any ⟨yl, yh, yr, yw⟩ ((xw - xr) * u00 + xr * u01) ((xw - xr) * u10 + xr * u11) 10871635968000 W ⟨by simp only; omega, by simp only; omega, by omega, by simp only; omega, by simp only; omega⟩ r1.1 (by omega) r2.1 (by omega))
    have g0 : (0 : Int) ≤ (yl : Int) := by omega
    have g1 : (yl : Int) < (T.rows.length : Int) := by have := RL.out; omega
    have g2 : (0 : Int) ≤ (yh : Int) := by omega
    have g3 : (yh : Int) < (T.rows.length : Int) := by have := RL.out; omega
    have g4 : (0 : Int) ≤ (xl : Int) := by omega
    have g5 : (xl : Int) < (T.ds.length : Int) := by omega
    have g6 : (0 : Int) ≤ (xh : Int) := by omega
    have g7 : (xh : Int) < (T.ds.length : Int) := by omega
    have d1 : 0 ≤ xw * yw := Int.mul_nonneg (by omega) (by omega)
    have d2 : xw * yw ≤ 2592000 * 10000 := Int.mul_le_mul (by omega) (by omega) (by omega) (by omega)
    have z1 := IntWalk.i64_in (xw * yw) (by omega)
    clear d1 d2 r1 r2 c00 c01 c10 c11 wx wy bx by' px1 py1 RW RL HV
    go_enter Tryz.func30, Tryz.ntmps30
    go_wp2_with fail
    refine (F1.out _ (HT.out.1.below X.1)).mono ?_
    rintro e w1 ⟨rfl, hb⟩
    replace X := (X.to hb).alloc #[.int .i64 (xl : Int), .int .i64 (xh : Int), .int .i64 xr, .int .i64 xw] 85
    clear hb
    have hr := X.r2
    go_wp2_with fail
    refine (F2.out _ (HT.out.2.1.below X.1)).mono ?_
    rintro e w2 ⟨rfl, hb⟩
    replace X := (X.to hb).alloc #[.int .i64 (yl : Int), .int .i64 (yh : Int), .int .i64 yr, .int .i64 yw] 85
    clear hb hr
    have hr := X.r3
    have hc := CELLS.out _ X.1
    go_wp2
    go_quiet (fail)
    go_wp2
    have HX := hide (X.drewN' nq)
    clear hr hc X
    have hr := HX.out.r3
    have hc := CELLS.out _ HX.out.1
    generalize w1.heap.size = xb at *
    generalize w2.heap.size = yb at *
    generalize World.drewN _ nq = W at *
    go_region_held3 (fun w' => w'.cell? ⟨xb, 0, none⟩ = some (.int .i64 (xl : Int)) ∧ w'.cell? ⟨xb, 1, none⟩ = some (.int .i64 (xh : Int)) ∧ w'.cell? ⟨xb, 2, none⟩ = some (.int .i64 xr) ∧ w'.cell? ⟨xb, 3, none⟩ = some (.int .i64 xw) ∧
        w'.cell? ⟨yb, 0, none⟩ = some (.int .i64 (yl : Int)) ∧ w'.cell? ⟨yb, 1, none⟩ = some (.int .i64 (yh : Int)) ∧ w'.cell? ⟨yb, 2, none⟩ = some (.int .i64 yr) ∧ w'.cell? ⟨yb, 3, none⟩ = some (.int .i64 yw) ∧
        w'.cell? ⟨b1, o1 + xl, none⟩ = some (.int .i64 u00) ∧ w'.cell? ⟨b1, o1 + xh, none⟩ = some (.int .i64 u01) ∧ w'.cell? ⟨b2, o2 + xl, none⟩ = some (.int .i64 u10) ∧ w'.cell? ⟨b2, o2 + xh, none⟩ = some (.int .i64 u11))
      (first | exact dep_keep HX.out (CELLS.out _ HX.out.1) | go_keep)
      (first
        | (go_at_call 45; ((with_reducible refine (M3.out _).mono ?_); rintro e w3 ⟨rfl, hb⟩); (first | (replace HX := hide (HX.out.to hb)) | (replace HX := hide (HX.out.drew.to hb))); clear hb)
        | (go_at_call 45; ((with_reducible refine (M1.out _).mono ?_); rintro e w3 ⟨rfl, hb⟩); (first | (replace HX := hide (HX.out.to hb)) | (replace HX := hide (HX.out.drew.to hb))); clear hb)
        | (go_at_call 45; ((with_reducible refine (M2.out _).mono ?_); rintro e w3 ⟨rfl, hb⟩); (first | (replace HX := hide (HX.out.to hb)) | (replace HX := hide (HX.out.drew.to hb))); clear hb))
    go_wp2
    go_ret3
    exact DepPost.yes IN.out NT.out DT.out HX.out.1
  · have q : (inL T.ds x = false) ∨ (inL T.ds x = true ∧ inL T.ps y = false) := by
      unfold inT at hin
      cases e : inL T.ds x
      · exact .inl rfl
      · cases e2 : inL T.ps y
        · exact .inr ⟨rfl, rfl⟩
        · exact absurd ⟨e, e2⟩ hin
    have HIN := hide hin
    clear hin
    unfold FindPost at F1 F2
    generalize inL T.ds x = bx at *
    generalize inL T.ps y = by' at *
    generalize fPl T.ds x = P at *
    generalize fPl T.ps y = Q at *
    rcases q with rfl | ⟨rfl, rfl⟩
    all_goals
      go_enter Tryz.func30, Tryz.ntmps30
      go_wp2_with fail
      refine (F1.out _ (HT.out.1.below X.1)).mono ?_
      rintro e w1 ⟨rfl, hb⟩
      replace X := (X.to hb).alloc #[.int .i64 (P.lo : Int), .int .i64 (P.hi : Int), .int .i64 P.rest, .int .i64 P.whole] 85
      clear hb
      have hr := X.r2
      go_wp2_with fail
      refine (F2.out _ (HT.out.2.1.below X.1)).mono ?_
      rintro e w2 ⟨rfl, hb⟩
      replace X := (X.to hb).alloc #[.int .i64 (Q.lo : Int), .int .i64 (Q.hi : Int), .int .i64 Q.rest, .int .i64 Q.whole] 85
      clear hb hr
      go_wp2
      go_ret3
      exact DepPost.no HIN.out X.1
/-- what Depth and Rate return -/
def depE (T : Tab) (x y : Int) : Int := if vT T = true then (if inL T.ds x = true ∧ inL T.ps y = true then 0 else 2) else 1
def depLo (T : Tab) (x y : Int) : Int := if depE T x y = 0 then loT T x y else 0
def depHi (T : Tab) (x y : Int) : Int := if depE T x y = 0 then hiT T x y else 0
def ratLo (T : Tab) (x y : Int) : Int := if depE T x y = 0 then nT T x y * 3600 / (dT T x y * x) else 0
def ratHi (T : Tab) (x y : Int) : Int := if depE T x y = 0 then cdiv (nT T x y * 3600) (dT T x y * x) else 0
theorem dep_cases (T : Tab) (x y : Int) : (vT T = false ∧ depE T x y = 1 ∧ depLo T x y = 0 ∧ depHi T x y = 0 ∧ ratLo T x y = 0 ∧ ratHi T x y = 0) ∨ (vT T = true ∧ ¬ inT T x y ∧ depE T x y = 2 ∧ depLo T x y = 0 ∧ depHi T x y = 0 ∧ ratLo T x y = 0 ∧ ratHi T x y = 0) ∨
    (vT T = true ∧ inT T x y ∧ depE T x y = 0 ∧ depLo T x y = loT T x y ∧ depHi T x y = hiT T x y ∧ ratLo T x y = nT T x y * 3600 / (dT T x y * x) ∧ ratHi T x y = cdiv (nT T x y * 3600) (dT T x y * x)) := by
  by_cases h : vT T = true
  · by_cases h2 : inL T.ds x = true ∧ inL T.ps y = true
    · have e : depE T x y = 0 := by simp [depE, h, h2]
      exact .inr (.inr ⟨h, h2, e, by simp [depLo, e], by simp [depHi, e], by simp [ratLo, e], by simp [ratHi, e]⟩)
    · have e : depE T x y = 2 := by simp only [depE, h, h2, if_true, if_false]
      exact .inr (.inl ⟨h, h2, e, by simp [depLo, e], by simp [depHi, e], by simp [ratLo, e], by simp [ratHi, e]⟩)
  · have e : depE T x y = 1 := by simp [depE, h]
    exact .inl ⟨by simpa using h, e, by simp [depLo, e], by simp [depHi, e], by simp [ratLo, e], by simp [ratHi, e]⟩
set_option maxRecDepth 100000 in
set_option maxHeartbeats 4000000 in
theorem Depth_any (T : Tab) (a : TabA) (x y : Int) (w : World) (ht : TabSl w T a) :
    Calls Tryz.prog 14 #[T.val a, .int .i64 x, .int .i64 y] w (SpanPost (depLo T x y) (depHi T x y) (depE T x y) w) := by
  have X := ((Own.start w).alloc #[.slice a.A1 T.ds.length a.c1, .slice a.A2 T.ps.length a.c2, .slice a.A3 T.rows.length a.c3] 25).alloc #[.int .i64 0, .int .i64 0] 45
  simp only [World.size_alloc] at X
  have HT := hide ht
  have V := hide (fun W (h : TabSl W T a) => tvalid_any T a W h)
  clear ht
  rcases dep_cases T x y with ⟨t1, t2, t3, t4, -, -⟩ | ⟨t1, t0, t2, t3, t4, -, -⟩ | ⟨t1, t0, t2, t3, t4, -, -⟩
  · have E := hide (And.intro t3 (And.intro t4 t2))
    clear t2 t3 t4
    go_enter Tryz.func14, Tryz.ntmps14
    go_wp2_with fail
    refine (V.out _ (HT.out.below X.1)).mono ?_
    rintro e w1 ⟨rfl, hb⟩
    rw [t1]
    replace X := X.to hb
    clear hb
    have hr := X.r2
    go_wp2
    exact bodyPost_ret (v := .tuple #[Sv 0 0, .int .i64 1]) (by simp [results, Tryz.results14, hr, go_sem]) rfl (SpanPost.mk E.out.1 E.out.2.1 E.out.2.2 (below_set (below_set X.1 (by omega) _) (by omega) _))
  · have E := hide (And.intro t3 (And.intro t4 t2))
    have D := hide (fun W (h : TabSl W T a) => depth_any T a x y W h (of_vT t1))
    have T0 := hide t0
    clear t2 t3 t4 t0
    go_enter Tryz.func14, Tryz.ntmps14
    go_wp2_with fail
    refine (V.out _ (HT.out.below X.1)).mono ?_
    rintro e w1 ⟨rfl, hb⟩
    rw [t1]
    replace X := X.to hb
    clear hb
    have hr := X.r2
    go_wp2_with fail
    refine (D.out _ (HT.out.below X.1)).mono ?_
    rintro e w2 ⟨-, he, hb⟩
    obtain rfl := he T0.out
    replace X := X.to hb
    clear hb hr he
    have hr := X.r2
    go_wp2
    exact bodyPost_ret (v := .tuple #[Sv 0 0, .int .i64 2]) (by simp [results, Tryz.results14, hr, go_sem]) rfl (SpanPost.mk E.out.1 E.out.2.1 E.out.2.2 (below_set (below_set X.1 (by omega) _) (by omega) _))
  · have E := hide (And.intro t3 (And.intro t4 t2))
    have D := hide (fun W (h : TabSl W T a) => depth_any T a x y W h (of_vT t1))
    have T0 := hide t0
    have bd := nT_bd (of_vT t1) t0
    obtain ⟨n, hn⟩ : ∃ n : Nat, nT T x y = (n : Int) := ⟨(nT T x y).toNat, by omega⟩
    obtain ⟨d, hd⟩ : ∃ d : Nat, dT T x y = (d : Int) := ⟨(dT T x y).toNat, by omega⟩
    rw [hn, hd] at bd
    have S := hide (fun W => span_any n 1 d W (by omega) (by omega) (by omega) (by omega) (by omega) (Nat.div_lt_of_lt_mul (by omega)))
    have EQ : Hid (loT T x y = ((n * 1 : Nat) : Int) / (d : Int) ∧ hiT T x y = cdiv ((n * 1 : Nat) : Int) (d : Int)) := hide (by unfold loT hiT; rw [hn, hd, Nat.mul_one]; exact ⟨rfl, rfl⟩)
    rw [← EQ.out.1, ← EQ.out.2] at S
    have HN := hide (And.intro hn hd)
    clear t2 t3 t4 t0 bd hn hd EQ
    go_enter Tryz.func14, Tryz.ntmps14
    go_wp2_with fail
    refine (V.out _ (HT.out.below X.1)).mono ?_
    rintro e w1 ⟨rfl, hb⟩
    rw [t1]
    replace X := X.to hb
    clear hb
    have hr := X.r2
    go_wp2_with fail
    refine (D.out _ (HT.out.below X.1)).mono ?_
    rintro e w2 ⟨he, -, hb⟩
    have he2 := he T0.out
    rw [HN.out.1, HN.out.2] at he2
    subst he2
    replace X := X.to hb
    clear hb hr he
    have hr := X.r2
    go_wp2_with fail
    refine (S.out _).mono ?_
    rintro e w3 ⟨rfl, hb⟩
    replace X := X.to hb
    clear hb hr
    have hr := X.r2
    go_wp2
    exact bodyPost_ret (v := .tuple #[Sv (loT T x y) (hiT T x y), .int .i64 0]) (by simp [results, Tryz.results14, hr, go_sem]) rfl (SpanPost.mk E.out.1 E.out.2.1 E.out.2.2 (below_set (below_set X.1 (by omega) _) (by omega) _))
end Go.Proofs.YtnhimgabcljahaaGreatDoor
