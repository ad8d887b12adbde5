/- Parts of one proof, joined: The reference's integers (sewershedref03): Made, OfInt, Times, Opposite, IsInt, Down, Up, FloorOf, CeilOf: what each returns; nothing that was there is turned (printed by gen_rf3.py). The reference's quotients (sewershedref03): Down, Up, FloorOf, CeilOf: what each returns; nothing that was there is turned (printed by gen_rf3q.py). The reference's quotients (sewershedref03): Down, Up, FloorOf, CeilOf at integers: what each returns; nothing that was there is turned (printed by gen_rf3q.py). The reference FloorOf and CeilOf (sewershedref03) (printed by gen_rf3q.py). The reference's Present (sewershedref48): what it returns; nothing that was there is turned. (Printed by gen_prr.py.). -/
import Derived.Test.YtdcdfjinbieblaaGreatDoorPkCostsPipes26
import Derived.Deep.QuietTactic
import Derived.BigQuiet
import Derived.RegionTactic
import Derived.Deep.RegionWith
import Derived.Test.YtdcdfjinbieblaaGreatDoorPkCostsPipes15
import Derived.Test.YtdcdfjinbieblaaGreatDoorPkCostsPipes6
namespace Go.Proofs.YtdcdfjinbieblaaGreatDoor
open Go.RowKit

abbrev Nd (h l : Nat) (s : Bool) : Value := .agg #[.int .u64 (h : Int), .int .u64 (l : Int), .bool s]
/-- the integer z is returned; nothing that was there is turned -/
def ZPost (z : Int) (w : World) (e : Ending) (w' : World) : Prop := (∃ h l : Nat, e = .returned (Nd h l (decide (z < 0))) ∧ Wd h l z.natAbs) ∧ Below w.heap.size w w'
theorem r3made_sign {h l : Nat} {z : Int} {s : Bool} (hw : Wd h l z.natAbs) (hs : z ≠ 0 → s = decide (z < 0)) : (s && !decide (h = 0 ∧ l = 0)) = decide (z < 0) := by
  obtain ⟨h1, h2, h3⟩ := hw
  by_cases hz : z = 0
  · subst hz
    have e : h = 0 ∧ l = 0 := by simp at h3; omega
    simp [e]
  · rw [hs hz]
    have e : ¬ (h = 0 ∧ l = 0) := by omega
    simp [e]
theorem ZPost.mk {z : Int} {h l : Nat} {s s' : Bool} {w w' : World} (hw : Wd h l z.natAbs) (h' : s' = (s && !decide (h = 0 ∧ l = 0))) (hs : z ≠ 0 → s = decide (z < 0)) (hb : Below w.heap.size w w') : ZPost z w (.returned (Nd h l s')) w' :=
  ⟨⟨h, l, by rw [h', r3made_sign hw hs], hw⟩, hb⟩
theorem Own.drewN3 {w W : World} {L : List (Nat × TypeId × Array Value)} (h : Own w W L) (n : Nat) : Own w (W.drewN n) L := ⟨⟨h.1.os, h.1.tape, h.1.output, h.1.size, h.1.block⟩, fun x hx => (h.2 x hx).drewN n⟩
set_option maxHeartbeats 1000000 in
theorem r3made_any (h l : Nat) (s : Bool) (w : World) :
    Calls Tryz.prog 102 #[Ud h l, .bool s] w fun e w' => (∃ s' : Bool, e = .returned (Nd h l s') ∧ s' = (s && !decide (h = 0 ∧ l = 0))) ∧ Below w.heap.size w w' := by
  have X := ((Own.start w).alloc (Uc h l) 112).alloc #[.int .u64 0, .int .u64 0, .bool false] 114
  simp only [World.size_alloc] at X
  have hr := X.r2
  have t : (s = false) ∨ (s = true ∧ h ≠ 0) ∨ (s = true ∧ h = 0 ∧ l ≠ 0) ∨ (s = true ∧ h = 0 ∧ l = 0) := by cases s <;> simp <;> omega
  rcases t with rfl | ⟨rfl, t1⟩ | ⟨rfl, rfl, t1⟩ | ⟨rfl, rfl, rfl⟩
  · go_enter Tryz.func102, Tryz.ntmps102
    go_wp2
    go_region
    all_goals go_wp2
    all_goals exact bodyPost_ret (v := Nd h l false) (by simp [results, Tryz.results102, go_sem]) rfl ⟨⟨_, rfl, by simp⟩, by have HX := X.1; have hz := HX.size; go_grown⟩
  · have q : ((h : Int) == 0) = false := by simp; omega
    have V := hide (show decide (h = 0 ∧ l = 0) = false by simp; omega)
    clear t1
    go_enter Tryz.func102, Tryz.ntmps102
    go_wp2
    go_region
    all_goals go_wp2
    all_goals exact bodyPost_ret (v := Nd h l true) (by simp [results, Tryz.results102, go_sem]) rfl ⟨⟨_, rfl, by rw [V.out]; rfl⟩, by have HX := X.1; have hz := HX.size; go_grown⟩
  · have q : ((l : Int) == 0) = false := by simp; omega
    have V := hide (show decide ((0 : Nat) = 0 ∧ l = 0) = false by simp; omega)
    clear t1
    go_enter Tryz.func102, Tryz.ntmps102
    go_wp2
    go_region
    all_goals go_wp2
    all_goals exact bodyPost_ret (v := Nd 0 l true) (by simp [results, Tryz.results102, go_sem]) rfl ⟨⟨_, rfl, by rw [V.out]; rfl⟩, by have HX := X.1; have hz := HX.size; go_grown⟩
  · go_enter Tryz.func102, Tryz.ntmps102
    go_wp2
    go_region
    all_goals go_wp2
    all_goals exact bodyPost_ret (v := Nd 0 0 false) (by simp [results, Tryz.results102, go_sem]) rfl ⟨⟨_, rfl, by simp⟩, by have HX := X.1; have hz := HX.size; go_grown⟩
set_option maxHeartbeats 1000000 in
theorem r3ofint_any (n : Int) (w : World) (hn : -9223372036854775808 ≤ n ∧ n ≤ 9223372036854775807) :
    Calls Tryz.prog 62 #[.int .i64 n] w (ZPost n w) := by
  have X := (Own.start w).alloc #[.int .u64 0, .int .u64 0, .bool false] 114
  have hr := X.r1
  obtain ⟨m, hm⟩ : ∃ m : Nat, n.natAbs = m := ⟨_, rfl⟩
  have S := hide (fun W => r3size_any n m W hm (by omega))
  have V := hide (show Wd 0 m n.natAbs from ⟨by omega, by omega, by omega⟩)
  clear hn hm
  by_cases t : n < 0
  all_goals
    have E := hide t
    go_enter Tryz.func62, Tryz.ntmps62
    go_wp2_with fail
    refine (S.out _).mono ?_
    rintro e w1 ⟨rfl, rfl⟩
    go_wp2_with fail
  · refine (r3made_any 0 m _ _).mono ?_
    rintro e w1 ⟨⟨s', rfl, hs⟩, hb⟩
    replace X := X.to hb
    have HG := hide hs
    clear hb hr hs
    have hr := X.r1
    go_wp2
    exact bodyPost_ret (v := Nd 0 m s') (by simp [results, Tryz.results62, hr, go_sem]) rfl (ZPost.mk (s := true) V.out (HG.out.trans (by simp)) (fun _ => by have := E.out; simp; omega) (by have HX := X.1; have hz := HX.size; go_grown))
  · refine (r3made_any 0 m _ _).mono ?_
    rintro e w1 ⟨⟨s', rfl, hs⟩, hb⟩
    replace X := X.to hb
    have HG := hide hs
    clear hb hr hs
    have hr := X.r1
    go_wp2
    exact bodyPost_ret (v := Nd 0 m s') (by simp [results, Tryz.results62, hr, go_sem]) rfl (ZPost.mk (s := false) V.out (HG.out.trans (by have := E.out; simp; omega)) (fun _ => by have := E.out; simp; omega) (by have HX := X.1; have hz := HX.size; go_grown))
theorem sign_mul {a b : Int} (h : a * b ≠ 0) : (decide (a < 0) != decide (b < 0)) = decide (a * b < 0) := by
  have ha : a ≠ 0 := fun e => h (by rw [e, Int.zero_mul])
  have hb : b ≠ 0 := fun e => h (by rw [e, Int.mul_zero])
  rcases Int.lt_or_gt_of_ne ha with x | x <;> rcases Int.lt_or_gt_of_ne hb with y | y
  · have := Int.mul_pos_of_neg_of_neg x y
    have e1 : ¬ a * b < 0 := by omega
    simp [x, y, e1]
  · have := Int.mul_neg_of_neg_of_pos x y
    have e1 : ¬ b < 0 := by omega
    simp [x, e1, this]
  · have := Int.mul_neg_of_pos_of_neg x y
    have e1 : ¬ a < 0 := by omega
    simp [y, e1, this]
  · have := Int.mul_pos x y
    have e1 : ¬ a < 0 := by omega
    have e2 : ¬ b < 0 := by omega
    have e3 : ¬ a * b < 0 := by omega
    simp [e1, e2, e3]
set_option maxHeartbeats 1000000 in
theorem r3times_any (a b : Int) (w : World) (ha : -9223372036854775808 ≤ a ∧ a ≤ 9223372036854775807) (hb : -9223372036854775808 ≤ b ∧ b ≤ 9223372036854775807) :
    Calls Tryz.prog 61 #[.int .i64 a, .int .i64 b] w (ZPost (a * b) w) := by
  have X := (Own.start w).alloc #[.int .u64 0, .int .u64 0, .bool false] 114
  have hr := X.r1
  obtain ⟨m, hm⟩ : ∃ m : Nat, a.natAbs = m := ⟨_, rfl⟩
  obtain ⟨n, hn⟩ : ∃ n : Nat, b.natAbs = n := ⟨_, rfl⟩
  have S1 := hide (fun W => r3size_any a m W hm (by omega))
  have S2 := hide (fun W => r3size_any b n W hn (by omega))
  have M := hide (fun W => r3mul_any m n W (by omega) (by omega))
  have V := hide (show (a * b).natAbs = m * n by rw [Int.natAbs_mul, hm, hn])
  have SG := hide (fun h => sign_mul (a := a) (b := b) h)
  clear ha hb hm hn
  generalize a * b = z at *
  rcases Int.lt_or_le a 0 with t1 | t1 <;> rcases Int.lt_or_le b 0 with t2 | t2
  · have EE := hide (And.intro (show decide (a < 0) = true from decide_eq_true t1) (show decide (b < 0) = true from decide_eq_true t2))
    go_enter Tryz.func61, Tryz.ntmps61
    go_wp2_with fail
    refine (S1.out _).mono ?_
    rintro e w1 ⟨rfl, rfl⟩
    go_wp2_with fail
    refine (S2.out _).mono ?_
    rintro e w1 ⟨rfl, rfl⟩
    go_wp2_with fail
    refine (M.out _).mono ?_
    rintro e w1 ⟨⟨h, l, rfl, hw⟩, hb⟩
    replace X := X.to hb
    rw [← V.out] at hw
    have HW := hide hw
    clear hb hr hw
    have hr := X.r1
    go_wp2_with fail
    refine (r3made_any h l _ _).mono ?_
    rintro e w1 ⟨⟨s', rfl, hs⟩, hb⟩
    replace X := X.to hb
    have HG := hide hs
    clear hb hr hs
    have hr := X.r1
    go_wp2
    exact bodyPost_ret (v := Nd h l s') (by simp [results, Tryz.results61, hr, go_sem]) rfl (ZPost.mk HW.out (HG.out.trans (by rw [EE.out.1, EE.out.2]; rfl)) SG.out (by have HX := X.1; have hz := HX.size; go_grown))
  · have EE := hide (And.intro (show decide (a < 0) = true from decide_eq_true t1) (show decide (b < 0) = false from decide_eq_false (by omega)))
    go_enter Tryz.func61, Tryz.ntmps61
    go_wp2_with fail
    refine (S1.out _).mono ?_
    rintro e w1 ⟨rfl, rfl⟩
    go_wp2_with fail
    refine (S2.out _).mono ?_
    rintro e w1 ⟨rfl, rfl⟩
    go_wp2_with fail
    refine (M.out _).mono ?_
    rintro e w1 ⟨⟨h, l, rfl, hw⟩, hb⟩
    replace X := X.to hb
    rw [← V.out] at hw
    have HW := hide hw
    clear hb hr hw
    have hr := X.r1
    go_wp2_with fail
    refine (r3made_any h l _ _).mono ?_
    rintro e w1 ⟨⟨s', rfl, hs⟩, hb⟩
    replace X := X.to hb
    have HG := hide hs
    clear hb hr hs
    have hr := X.r1
    go_wp2
    exact bodyPost_ret (v := Nd h l s') (by simp [results, Tryz.results61, hr, go_sem]) rfl (ZPost.mk HW.out (HG.out.trans (by rw [EE.out.1, EE.out.2]; rfl)) SG.out (by have HX := X.1; have hz := HX.size; go_grown))
  · have EE := hide (And.intro (show decide (a < 0) = false from decide_eq_false (by omega)) (show decide (b < 0) = true from decide_eq_true t2))
    go_enter Tryz.func61, Tryz.ntmps61
    go_wp2_with fail
    refine (S1.out _).mono ?_
    rintro e w1 ⟨rfl, rfl⟩
    go_wp2_with fail
    refine (S2.out _).mono ?_
    rintro e w1 ⟨rfl, rfl⟩
    go_wp2_with fail
    refine (M.out _).mono ?_
    rintro e w1 ⟨⟨h, l, rfl, hw⟩, hb⟩
    replace X := X.to hb
    rw [← V.out] at hw
    have HW := hide hw
    clear hb hr hw
    have hr := X.r1
    go_wp2_with fail
    refine (r3made_any h l _ _).mono ?_
    rintro e w1 ⟨⟨s', rfl, hs⟩, hb⟩
    replace X := X.to hb
    have HG := hide hs
    clear hb hr hs
    have hr := X.r1
    go_wp2
    exact bodyPost_ret (v := Nd h l s') (by simp [results, Tryz.results61, hr, go_sem]) rfl (ZPost.mk HW.out (HG.out.trans (by rw [EE.out.1, EE.out.2]; rfl)) SG.out (by have HX := X.1; have hz := HX.size; go_grown))
  · have EE := hide (And.intro (show decide (a < 0) = false from decide_eq_false (by omega)) (show decide (b < 0) = false from decide_eq_false (by omega)))
    go_enter Tryz.func61, Tryz.ntmps61
    go_wp2_with fail
    refine (S1.out _).mono ?_
    rintro e w1 ⟨rfl, rfl⟩
    go_wp2_with fail
    refine (S2.out _).mono ?_
    rintro e w1 ⟨rfl, rfl⟩
    go_wp2_with fail
    refine (M.out _).mono ?_
    rintro e w1 ⟨⟨h, l, rfl, hw⟩, hb⟩
    replace X := X.to hb
    rw [← V.out] at hw
    have HW := hide hw
    clear hb hr hw
    have hr := X.r1
    go_wp2_with fail
    refine (r3made_any h l _ _).mono ?_
    rintro e w1 ⟨⟨s', rfl, hs⟩, hb⟩
    replace X := X.to hb
    have HG := hide hs
    clear hb hr hs
    have hr := X.r1
    go_wp2
    exact bodyPost_ret (v := Nd h l s') (by simp [results, Tryz.results61, hr, go_sem]) rfl (ZPost.mk HW.out (HG.out.trans (by rw [EE.out.1, EE.out.2]; rfl)) SG.out (by have HX := X.1; have hz := HX.size; go_grown))
set_option maxHeartbeats 1000000 in
theorem r3opp_any (h l : Nat) (z : Int) (w : World) (hw : Wd h l z.natAbs) :
    Calls Tryz.prog 105 #[Nd h l (decide (z < 0))] w (ZPost (-z) w) := by
  have X := ((Own.start w).alloc #[.int .u64 (h : Int), .int .u64 (l : Int), .bool (decide (z < 0))] 114).alloc #[.int .u64 0, .int .u64 0, .bool false] 114
  simp only [World.size_alloc] at X
  have V := hide (show Wd h l (-z).natAbs by rw [Int.natAbs_neg]; exact hw)
  have SG := hide (show -z ≠ 0 → (!decide (z < 0)) = decide (-z < 0) from fun h => by
    by_cases t : z < 0
    · have t' : ¬ -z < 0 := by omega
      rw [decide_eq_true t, decide_eq_false t']; rfl
    · have t' : -z < 0 := by omega
      rw [decide_eq_false t, decide_eq_true t']; rfl)
  clear hw
  generalize decide (z < 0) = s at *
  have hr := X.r2
  go_enter Tryz.func105, Tryz.ntmps105
  go_wp2_with fail
  refine (r3made_any h l (!s) _).mono ?_
  rintro e w1 ⟨⟨s', rfl, hs⟩, hb⟩
  replace X := X.to hb
  have HG := hide hs
  clear hb hr hs
  have hr := X.r2
  go_wp2
  exact bodyPost_ret (v := Nd h l s') (by simp [results, Tryz.results105, hr, go_sem]) rfl (ZPost.mk V.out HG.out SG.out (by have HX := X.1; have hz := HX.size; go_grown))
def fitsI (z : Int) : Bool := decide (-9223372036854775808 ≤ z ∧ z ≤ 9223372036854775807)
def ZIntPost (z : Int) (w : World) (e : Ending) (w' : World) : Prop := (∃ v : Int, e = .returned (.tuple #[.int .i64 v, .bool (fitsI z)]) ∧ (fitsI z = true → v = z)) ∧ Below w.heap.size w w'
theorem ZIntPost.mk {z v : Int} {b : Bool} {w w' : World} (h1 : fitsI z = b) (h2 : b = true → v = z) (hb : Below w.heap.size w w') : ZIntPost z w (.returned (.tuple #[.int .i64 v, .bool b])) w' := by
  subst h1; exact ⟨⟨v, rfl, h2⟩, hb⟩
set_option maxRecDepth 100000 in
set_option maxHeartbeats 1000000 in
theorem r3isint_any (h l : Nat) (z : Int) (w : World) (hw : Wd h l z.natAbs) :
    Calls Tryz.prog 59 #[Nd h l (decide (z < 0))] w (ZIntPost z w) := by
  have X := (Own.start w).alloc #[.int .u64 (h : Int), .int .u64 (l : Int), .bool (decide (z < 0))] 114
  obtain ⟨w1, w2, w3⟩ := hw
  obtain ⟨m, hm⟩ : ∃ m : Nat, (m : Int) = IntKind.u64.wrap (0 - (l : Int)) := ⟨(IntKind.u64.wrap (0 - (l : Int))).toNat, by rw [IntKind.wrap_u64]; omega⟩
  have e1 : IntKind.u64.wrap (0 - (l : Int)) = (m : Int) := hm.symm
  have e1' : IntKind.u64.wrap (-(l : Int)) = (m : Int) := by rw [← e1]; congr 1; omega
  rw [IntKind.wrap_u64] at hm
  obtain ⟨v, hv⟩ : ∃ v : Int, IntKind.i64.wrap (m : Int) = v := ⟨_, rfl⟩
  obtain ⟨u, hu⟩ : ∃ u : Int, IntKind.i64.wrap (l : Int) = u := ⟨_, rfl⟩
  have hv' := hv
  have hu' := hu
  rw [IntKind.wrap_i64] at hv' hu'
  have t : (h ≠ 0) ∨ (h = 0 ∧ 9223372036854775808 < l) ∨ (h = 0 ∧ l ≤ 9223372036854775808) := by omega
  by_cases s : z < 0
  · rw [decide_eq_true s] at X ⊢
    have hr := X.r1
    rcases t with t | ⟨rfl, t⟩ | ⟨rfl, t⟩
    · have q : ((h : Int) == 0) = false := by simp; omega
      have V := hide (show fitsI z = false from decide_eq_false (by omega))
      clear t w1 w2 w3 hm hv' hu' s
      go_enter Tryz.func59, Tryz.ntmps59
      go_wp2
      go_quiet (fail)
      go_wp2
      go_ret2
      exact ZIntPost.mk V.out (fun h => by cases h) ((X.drewN3 nq).1)
    · have q : decide ((l : Int) ≤ 9223372036854775808) = false := decide_eq_false (by omega)
      have V := hide (show fitsI z = false from decide_eq_false (by omega))
      clear t w1 w2 w3 hm hv' hu' s
      go_enter Tryz.func59, Tryz.ntmps59
      go_wp2
      go_quiet (fail)
      go_wp2
      go_ret2
      exact ZIntPost.mk V.out (fun h => by cases h) ((X.drewN3 nq).1)
    · have q : decide ((l : Int) ≤ 9223372036854775808) = true := decide_eq_true (by omega)
      have V := hide (show fitsI z = true from decide_eq_true (by omega))
      have V2 := hide (show v = z by omega)
      clear t w1 w2 w3 hm hv' hu' s
      go_enter Tryz.func59, Tryz.ntmps59
      go_wp2
      go_quiet (fail)
      go_wp2
      go_ret2
      exact ZIntPost.mk V.out (fun _ => V2.out) ((X.drewN3 nq).1)
  · rw [decide_eq_false s] at X ⊢
    have hr := X.r1
    have t' : (h ≠ 0) ∨ (h = 0 ∧ 9223372036854775808 ≤ l) ∨ (h = 0 ∧ l < 9223372036854775808) := by omega
    clear t
    rcases t' with t | ⟨rfl, t⟩ | ⟨rfl, t⟩
    · have q : ((h : Int) == 0) = false := by simp; omega
      have V := hide (show fitsI z = false from decide_eq_false (by omega))
      clear t w1 w2 w3 hm hv' hu' s
      go_enter Tryz.func59, Tryz.ntmps59
      go_wp2
      go_quiet (fail)
      go_wp2
      go_ret2
      exact ZIntPost.mk V.out (fun h => by cases h) ((X.drewN3 nq).1)
    · have q : decide ((l : Int) < 9223372036854775808) = false := decide_eq_false (by omega)
      have V := hide (show fitsI z = false from decide_eq_false (by omega))
      clear t w1 w2 w3 hm hv' hu' s
      go_enter Tryz.func59, Tryz.ntmps59
      go_wp2
      go_quiet (fail)
      go_wp2
      go_ret2
      exact ZIntPost.mk V.out (fun h => by cases h) ((X.drewN3 nq).1)
    · have q : decide ((l : Int) < 9223372036854775808) = true := decide_eq_true (by omega)
      have V := hide (show fitsI z = true from decide_eq_true (by omega))
      have V2 := hide (show u = z by omega)
      clear t w1 w2 w3 hm hv' hu' s
      go_enter Tryz.func59, Tryz.ntmps59
      go_wp2
      go_quiet (fail)
      go_wp2
      go_ret2
      exact ZIntPost.mk V.out (fun _ => V2.out) ((X.drewN3 nq).1)
end Go.Proofs.YtdcdfjinbieblaaGreatDoor

namespace Go.Proofs.YtdcdfjinbieblaaGreatDoor
open Go.RowKit

/-- floor (x / y), of magnitudes and signs -/
def fdv (x y : Int) : Int := if x < 0 ↔ y < 0 then ((x.natAbs / y.natAbs : Nat) : Int) else -(((x.natAbs / y.natAbs) + (if x.natAbs % y.natAbs = 0 then 0 else 1) : Nat) : Int)
def cdv (x y : Int) : Int := -fdv (-x) y
theorem fdv_pos {x y : Int} (h : 0 < y) : fdv x y = x / y := by
  obtain ⟨Y, rfl⟩ : ∃ Y : Nat, y = (Y : Int) := ⟨y.toNat, by omega⟩
  have hY : ¬ ((Y : Int) < 0) := by omega
  have hY0 : 0 < Y := by omega
  unfold fdv
  by_cases hx : x < 0
  · obtain ⟨X, rfl⟩ : ∃ X : Nat, x = -(X : Int) := ⟨(-x).toNat, by omega⟩
    rw [if_neg (by simp only [hx, hY]; simp), Int.natAbs_neg, Int.natAbs_natCast, Int.natAbs_natCast]
    have e := Nat.div_add_mod X Y
    have m := Nat.mod_lt X hY0
    generalize X / Y = q at *
    generalize X % Y = r at *
    symm
    by_cases hr : r = 0
    · rw [if_pos hr]
      refine ((Int.ediv_emod_unique h (q := -((q + 0 : Nat) : Int)) (r := 0)).2 ⟨?_, by omega, by omega⟩).1
      subst hr; rw [← e]; simp only [Nat.add_zero, Int.natCast_mul]; grind
    · rw [if_neg hr]
      refine ((Int.ediv_emod_unique h (q := -((q + 1 : Nat) : Int)) (r := (Y : Int) - r)).2 ⟨?_, by omega, by omega⟩).1
      rw [← e, Int.natCast_add, Int.natCast_add, Int.natCast_mul]; grind
  · rw [if_pos (by simp only [hx, hY])]
    obtain ⟨X, rfl⟩ : ∃ X : Nat, x = (X : Int) := ⟨x.toNat, by omega⟩
    rw [Int.natAbs_natCast, Int.natAbs_natCast, Int.natCast_ediv]
theorem cdv_pos {x y : Int} (h : 0 < y) : cdv x y = -((-x) / y) := by unfold cdv; rw [fdv_pos h]
/-- a size, and the sign where the integer is not 0 -/
def NS (z : Int) (n : Nat) (s : Bool) : Prop := z.natAbs = n ∧ (z ≠ 0 → s = decide (z < 0))
theorem ZPost.ns {z : Int} {h l n : Nat} {s s' : Bool} {w w' : World} (hn : NS z n s) (hw : Wd h l n) (h' : s' = (s && !decide (h = 0 ∧ l = 0))) (hb : Below w.heap.size w w') : ZPost z w (.returned (Nd h l s')) w' :=
  ZPost.mk (by rw [hn.1]; exact hw) h' hn.2 hb
/-- the parts of a quotient: the same sign, or another one, with and without a rest -/
theorem fdv_cases (x y : Int) (Q R : Nat) (hQ : Q = x.natAbs / y.natAbs) (hR : R = x.natAbs % y.natAbs) :
    (decide (x < 0) = decide (y < 0) → NS (fdv x y) Q false) ∧ (decide (x < 0) ≠ decide (y < 0) → R = 0 → NS (fdv x y) Q true) ∧ (decide (x < 0) ≠ decide (y < 0) → R ≠ 0 → NS (fdv x y) (Q + 1) true) := by
  unfold fdv
  rw [← hQ, ← hR]
  refine ⟨fun h => ?_, fun h h' => ?_, fun h h' => ?_⟩
  · rw [if_pos (by simpa using h)]
    refine ⟨Int.natAbs_natCast _, fun _ => (decide_eq_false (by omega)).symm⟩
  · rw [if_neg (by simpa using h), if_pos h']
    refine ⟨by rw [Int.natAbs_neg]; rfl, fun hn => (decide_eq_true (by omega)).symm⟩
  · rw [if_neg (by simpa using h), if_neg h']
    refine ⟨by rw [Int.natAbs_neg]; rfl, fun hn => (decide_eq_true (by omega)).symm⟩
theorem fdv_small {X Y Q R : Nat} (hQ : X / Y = Q) (hR : X % Y = R) (hX : X < 340282366920938463463374607431768211456) (hz : R ≠ 0) : Q + 1 < 340282366920938463463374607431768211456 := by
  have : Y ≠ 1 := fun h => hz (by rw [← hR, h, Nat.mod_one])
  rcases Nat.eq_zero_or_pos Y with h | h
  · subst h; rw [Nat.div_zero] at hQ; omega
  · have h2 : X / Y ≤ X / 2 := Nat.div_le_div_left (by omega) (by omega)
    omega
theorem wd_eq {h l x y : Nat} (h1 : Wd h l x) (h2 : x = y) : Wd h l y := h2 ▸ h1
theorem wd_zero {h l x : Nat} (h1 : Wd h l x) : (h = 0 ∧ l = 0) ↔ x = 0 := by obtain ⟨_, _, h3⟩ := h1; omega
theorem wd_one {h l a b x : Nat} (h1 : Wd h l ((a * 18446744073709551616 + b + (0 * 18446744073709551616 + 1)) % 340282366920938463463374607431768211456)) (h2 : Wd a b x) (hx : x + 1 < 340282366920938463463374607431768211456) : Wd h l (x + 1) := by
  obtain ⟨p, q, r⟩ := h1
  obtain ⟨s, t, u⟩ := h2
  refine ⟨p, q, ?_⟩
  rw [r, Nat.zero_mul, Nat.zero_add, u, Nat.mod_eq_of_lt hx]
set_option maxRecDepth 100000 in
set_option maxHeartbeats 4000000 in
theorem r3down_ff (xh xl yh yl : Nat) (x y : Int) (w : World) (hx : Wd xh xl x.natAbs) (hy : Wd yh yl y.natAbs) (h0 : y ≠ 0) (sx : decide (x < 0) = false) (sy : decide (y < 0) = false) :
    Calls Tryz.prog 60 #[Nd xh xl false, Nd yh yl false] w (ZPost (fdv x y) w) := by
  have X := (((Own.start w).alloc #[.int .u64 (xh : Int), .int .u64 (xl : Int), .bool false] 114).alloc #[.int .u64 (yh : Int), .int .u64 (yl : Int), .bool false] 114).alloc #[.int .u64 0, .int .u64 0, .bool false] 114
  simp only [World.size_alloc] at X
  have D := hide (fun W => r3div_any xh xl yh yl W hx.1 hx.2.1 hy.1 hy.2.1 (by rw [hy.2.2]; omega))
  rw [hx.2.2, hy.2.2] at D
  have FC := hide (fdv_cases x y _ _ rfl rfl)
  rw [sx, sy] at FC
  have FC1 := hide (FC.out.1 rfl)
  clear FC
  have ZB := hide (show x.natAbs < 340282366920938463463374607431768211456 from by have := wd_lt hx.1 hx.2.1; have := hx.2.2; omega)
  clear hx hy h0 sx sy
  generalize hQ : x.natAbs / y.natAbs = Q at *
  generalize hR : x.natAbs % y.natAbs = R at *
  have QR := hide (And.intro hQ hR)
  clear hQ hR
  have hr := X.r3
  go_enter Tryz.func60, Tryz.ntmps60
  go_wp2_with fail
  refine (D.out _).mono ?_
  rintro e w1 ⟨⟨qh, ql, rh, rl, rfl, hq, hrr⟩, hb⟩
  have Z1 : w.heap.size + 1 + 1 < w1.heap.size := (X.to hb).r1.2.2
  replace X := ((X.to hb).alloc (Uc qh ql) 112).alloc (Uc rh rl) 112
  simp only [World.size_alloc] at X
  have HQ := hide hq
  have HR := hide hrr
  clear hb hr hq hrr
  have hr := X.r5
  go_wp2_with fail
  refine (r3made_any qh ql _ _).mono ?_
  rintro e w3 ⟨⟨s', rfl, hs⟩, hb⟩
  replace X := X.to hb
  have HG := hide hs
  clear hb hr hs
  have hr := X.r5
  go_wp2
  exact bodyPost_ret (v := Nd qh ql s') (by simp [results, Tryz.results60, hr, go_sem]) rfl (ZPost.ns FC1.out HQ.out (HG.out.trans (by first | rfl | simp)) (by have HX := X.1; have hz := HX.size; go_grown))
set_option maxRecDepth 100000 in
set_option maxHeartbeats 4000000 in
theorem r3down_tt (xh xl yh yl : Nat) (x y : Int) (w : World) (hx : Wd xh xl x.natAbs) (hy : Wd yh yl y.natAbs) (h0 : y ≠ 0) (sx : decide (x < 0) = true) (sy : decide (y < 0) = true) :
    Calls Tryz.prog 60 #[Nd xh xl true, Nd yh yl true] w (ZPost (fdv x y) w) := by
  have X := (((Own.start w).alloc #[.int .u64 (xh : Int), .int .u64 (xl : Int), .bool true] 114).alloc #[.int .u64 (yh : Int), .int .u64 (yl : Int), .bool true] 114).alloc #[.int .u64 0, .int .u64 0, .bool false] 114
  simp only [World.size_alloc] at X
  have D := hide (fun W => r3div_any xh xl yh yl W hx.1 hx.2.1 hy.1 hy.2.1 (by rw [hy.2.2]; omega))
  rw [hx.2.2, hy.2.2] at D
  have FC := hide (fdv_cases x y _ _ rfl rfl)
  rw [sx, sy] at FC
  have FC1 := hide (FC.out.1 rfl)
  clear FC
  have ZB := hide (show x.natAbs < 340282366920938463463374607431768211456 from by have := wd_lt hx.1 hx.2.1; have := hx.2.2; omega)
  clear hx hy h0 sx sy
  generalize hQ : x.natAbs / y.natAbs = Q at *
  generalize hR : x.natAbs % y.natAbs = R at *
  have QR := hide (And.intro hQ hR)
  clear hQ hR
  have hr := X.r3
  go_enter Tryz.func60, Tryz.ntmps60
  go_wp2_with fail
  refine (D.out _).mono ?_
  rintro e w1 ⟨⟨qh, ql, rh, rl, rfl, hq, hrr⟩, hb⟩
  have Z1 : w.heap.size + 1 + 1 < w1.heap.size := (X.to hb).r1.2.2
  replace X := ((X.to hb).alloc (Uc qh ql) 112).alloc (Uc rh rl) 112
  simp only [World.size_alloc] at X
  have HQ := hide hq
  have HR := hide hrr
  clear hb hr hq hrr
  have hr := X.r5
  go_wp2_with fail
  refine (r3made_any qh ql _ _).mono ?_
  rintro e w3 ⟨⟨s', rfl, hs⟩, hb⟩
  replace X := X.to hb
  have HG := hide hs
  clear hb hr hs
  have hr := X.r5
  go_wp2
  exact bodyPost_ret (v := Nd qh ql s') (by simp [results, Tryz.results60, hr, go_sem]) rfl (ZPost.ns FC1.out HQ.out (HG.out.trans (by first | rfl | simp)) (by have HX := X.1; have hz := HX.size; go_grown))
set_option maxRecDepth 100000 in
set_option maxHeartbeats 4000000 in
theorem r3down_ft (xh xl yh yl : Nat) (x y : Int) (w : World) (hx : Wd xh xl x.natAbs) (hy : Wd yh yl y.natAbs) (h0 : y ≠ 0) (sx : decide (x < 0) = false) (sy : decide (y < 0) = true) :
    Calls Tryz.prog 60 #[Nd xh xl false, Nd yh yl true] w (ZPost (fdv x y) w) := by
  have X := (((Own.start w).alloc #[.int .u64 (xh : Int), .int .u64 (xl : Int), .bool false] 114).alloc #[.int .u64 (yh : Int), .int .u64 (yl : Int), .bool true] 114).alloc #[.int .u64 0, .int .u64 0, .bool false] 114
  simp only [World.size_alloc] at X
  have D := hide (fun W => r3div_any xh xl yh yl W hx.1 hx.2.1 hy.1 hy.2.1 (by rw [hy.2.2]; omega))
  rw [hx.2.2, hy.2.2] at D
  have FC := hide (fdv_cases x y _ _ rfl rfl)
  rw [sx, sy] at FC
  replace FC := hide (FC.out.2.imp (fun h => h (by decide)) (fun h => h (by decide)))
  have ZB := hide (show x.natAbs < 340282366920938463463374607431768211456 from by have := wd_lt hx.1 hx.2.1; have := hx.2.2; omega)
  clear hx hy h0 sx sy
  generalize hQ : x.natAbs / y.natAbs = Q at *
  generalize hR : x.natAbs % y.natAbs = R at *
  have QR := hide (And.intro hQ hR)
  clear hQ hR
  have hr := X.r3
  go_enter Tryz.func60, Tryz.ntmps60
  go_wp2_with fail
  refine (D.out _).mono ?_
  rintro e w1 ⟨⟨qh, ql, rh, rl, rfl, hq, hrr⟩, hb⟩
  have Z1 : w.heap.size + 1 + 1 < w1.heap.size := (X.to hb).r1.2.2
  replace X := ((X.to hb).alloc (Uc qh ql) 112).alloc (Uc rh rl) 112
  simp only [World.size_alloc] at X
  have HQ := hide hq
  have HR := hide hrr
  clear hb hr hq hrr
  have hr := X.r5
  by_cases z : R = 0
  · obtain ⟨z1, z2⟩ := (wd_zero HR.out).2 z
    have zq : ((rh : Int) == 0) = true := by simp; omega
    have zq' : ((rl : Int) == 0) = true := by simp; omega
    clear z1 z2
    have NZ := hide (FC.out.1 z)
    clear z
    go_wp2_with fail
    refine (r3made_any qh ql _ _).mono ?_
    rintro e w3 ⟨⟨s', rfl, hs⟩, hb⟩
    replace X := X.to hb
    have HG := hide hs
    clear hb hr hs
    have hr := X.r5
    go_wp2
    exact bodyPost_ret (v := Nd qh ql s') (by simp [results, Tryz.results60, hr, go_sem]) rfl (ZPost.ns NZ.out HQ.out (HG.out.trans (by first | rfl | simp)) (by have HX := X.1; have hz := HX.size; go_grown))
  · have z' : (rh ≠ 0) ∨ (rh = 0 ∧ rl ≠ 0) := by
      have : ¬ (rh = 0 ∧ rl = 0) := fun k => z ((wd_zero HR.out).1 k)
      clear hr
      omega
    have NZ := hide (FC.out.2 z)
    have SM := hide (fdv_small QR.out.1 QR.out.2 ZB.out z)
    have P := hide (fun W => r3plus_any qh ql 0 1 W HQ.out.2.1 (by omega))
    clear z
    rcases z' with z | ⟨z0, z⟩
    · have zq : ((rh : Int) == 0) = false := by simp; omega
      clear z
      go_wp2_with fail
      refine (P.out _).mono ?_
      rintro e w2 ⟨⟨ph, pl, rfl, hp⟩, hb⟩
      have HP := hide hp
      have Y := (X.to hb).swap
      have X := (Y.setU (h' := ph) (l' := pl) (by omega) (by simp <;> omega)).swap
      clear hb hr hp zq
      have hr := Y.r5
      go_wp2_with fail
      refine (r3made_any ph pl _ _).mono ?_
      rintro e w3 ⟨⟨s', rfl, hs⟩, hb⟩
      replace X := X.to hb
      have HG := hide hs
      clear hb hr hs
      have hr := X.r5
      go_wp2
      exact bodyPost_ret (v := Nd ph pl s') (by simp [results, Tryz.results60, hr, go_sem]) rfl (ZPost.ns NZ.out (wd_one HP.out HQ.out SM.out) (HG.out.trans (by first | rfl | simp)) (by have HX := X.1; have hz := HX.size; go_grown))
    · have zr : ((rh : Int) == 0) = true := by simp; omega
      clear z0
      have zq : ((rl : Int) == 0) = false := by simp; omega
      clear z
      go_wp2_with fail
      refine (P.out _).mono ?_
      rintro e w2 ⟨⟨ph, pl, rfl, hp⟩, hb⟩
      have HP := hide hp
      have Y := (X.to hb).swap
      have X := (Y.setU (h' := ph) (l' := pl) (by omega) (by simp <;> omega)).swap
      clear hb hr hp zq zr
      have hr := Y.r5
      go_wp2_with fail
      refine (r3made_any ph pl _ _).mono ?_
      rintro e w3 ⟨⟨s', rfl, hs⟩, hb⟩
      replace X := X.to hb
      have HG := hide hs
      clear hb hr hs
      have hr := X.r5
      go_wp2
      exact bodyPost_ret (v := Nd ph pl s') (by simp [results, Tryz.results60, hr, go_sem]) rfl (ZPost.ns NZ.out (wd_one HP.out HQ.out SM.out) (HG.out.trans (by first | rfl | simp)) (by have HX := X.1; have hz := HX.size; go_grown))
set_option maxRecDepth 100000 in
set_option maxHeartbeats 4000000 in
theorem r3down_tf (xh xl yh yl : Nat) (x y : Int) (w : World) (hx : Wd xh xl x.natAbs) (hy : Wd yh yl y.natAbs) (h0 : y ≠ 0) (sx : decide (x < 0) = true) (sy : decide (y < 0) = false) :
    Calls Tryz.prog 60 #[Nd xh xl true, Nd yh yl false] w (ZPost (fdv x y) w) := by
  have X := (((Own.start w).alloc #[.int .u64 (xh : Int), .int .u64 (xl : Int), .bool true] 114).alloc #[.int .u64 (yh : Int), .int .u64 (yl : Int), .bool false] 114).alloc #[.int .u64 0, .int .u64 0, .bool false] 114
  simp only [World.size_alloc] at X
  have D := hide (fun W => r3div_any xh xl yh yl W hx.1 hx.2.1 hy.1 hy.2.1 (by rw [hy.2.2]; omega))
  rw [hx.2.2, hy.2.2] at D
  have FC := hide (fdv_cases x y _ _ rfl rfl)
  rw [sx, sy] at FC
  replace FC := hide (FC.out.2.imp (fun h => h (by decide)) (fun h => h (by decide)))
  have ZB := hide (show x.natAbs < 340282366920938463463374607431768211456 from by have := wd_lt hx.1 hx.2.1; have := hx.2.2; omega)
  clear hx hy h0 sx sy
  generalize hQ : x.natAbs / y.natAbs = Q at *
  generalize hR : x.natAbs % y.natAbs = R at *
  have QR := hide (And.intro hQ hR)
  clear hQ hR
  have hr := X.r3
  go_enter Tryz.func60, Tryz.ntmps60
  go_wp2_with fail
  refine (D.out _).mono ?_
  rintro e w1 ⟨⟨qh, ql, rh, rl, rfl, hq, hrr⟩, hb⟩
  have Z1 : w.heap.size + 1 + 1 < w1.heap.size := (X.to hb).r1.2.2
  replace X := ((X.to hb).alloc (Uc qh ql) 112).alloc (Uc rh rl) 112
  simp only [World.size_alloc] at X
  have HQ := hide hq
  have HR := hide hrr
  clear hb hr hq hrr
  have hr := X.r5
  by_cases z : R = 0
  · obtain ⟨z1, z2⟩ := (wd_zero HR.out).2 z
    have zq : ((rh : Int) == 0) = true := by simp; omega
    have zq' : ((rl : Int) == 0) = true := by simp; omega
    clear z1 z2
    have NZ := hide (FC.out.1 z)
    clear z
    go_wp2_with fail
    refine (r3made_any qh ql _ _).mono ?_
    rintro e w3 ⟨⟨s', rfl, hs⟩, hb⟩
    replace X := X.to hb
    have HG := hide hs
    clear hb hr hs
    have hr := X.r5
    go_wp2
    exact bodyPost_ret (v := Nd qh ql s') (by simp [results, Tryz.results60, hr, go_sem]) rfl (ZPost.ns NZ.out HQ.out (HG.out.trans (by first | rfl | simp)) (by have HX := X.1; have hz := HX.size; go_grown))
  · have z' : (rh ≠ 0) ∨ (rh = 0 ∧ rl ≠ 0) := by
      have : ¬ (rh = 0 ∧ rl = 0) := fun k => z ((wd_zero HR.out).1 k)
      clear hr
      omega
    have NZ := hide (FC.out.2 z)
    have SM := hide (fdv_small QR.out.1 QR.out.2 ZB.out z)
    have P := hide (fun W => r3plus_any qh ql 0 1 W HQ.out.2.1 (by omega))
    clear z
    rcases z' with z | ⟨z0, z⟩
    · have zq : ((rh : Int) == 0) = false := by simp; omega
      clear z
      go_wp2_with fail
      refine (P.out _).mono ?_
      rintro e w2 ⟨⟨ph, pl, rfl, hp⟩, hb⟩
      have HP := hide hp
      have Y := (X.to hb).swap
      have X := (Y.setU (h' := ph) (l' := pl) (by omega) (by simp <;> omega)).swap
      clear hb hr hp zq
      have hr := Y.r5
      go_wp2_with fail
      refine (r3made_any ph pl _ _).mono ?_
      rintro e w3 ⟨⟨s', rfl, hs⟩, hb⟩
      replace X := X.to hb
      have HG := hide hs
      clear hb hr hs
      have hr := X.r5
      go_wp2
      exact bodyPost_ret (v := Nd ph pl s') (by simp [results, Tryz.results60, hr, go_sem]) rfl (ZPost.ns NZ.out (wd_one HP.out HQ.out SM.out) (HG.out.trans (by first | rfl | simp)) (by have HX := X.1; have hz := HX.size; go_grown))
    · have zr : ((rh : Int) == 0) = true := by simp; omega
      clear z0
      have zq : ((rl : Int) == 0) = false := by simp; omega
      clear z
      go_wp2_with fail
      refine (P.out _).mono ?_
      rintro e w2 ⟨⟨ph, pl, rfl, hp⟩, hb⟩
      have HP := hide hp
      have Y := (X.to hb).swap
      have X := (Y.setU (h' := ph) (l' := pl) (by omega) (by simp <;> omega)).swap
      clear hb hr hp zq zr
      have hr := Y.r5
      go_wp2_with fail
      refine (r3made_any ph pl _ _).mono ?_
      rintro e w3 ⟨⟨s', rfl, hs⟩, hb⟩
      replace X := X.to hb
      have HG := hide hs
      clear hb hr hs
      have hr := X.r5
      go_wp2
      exact bodyPost_ret (v := Nd ph pl s') (by simp [results, Tryz.results60, hr, go_sem]) rfl (ZPost.ns NZ.out (wd_one HP.out HQ.out SM.out) (HG.out.trans (by first | rfl | simp)) (by have HX := X.1; have hz := HX.size; go_grown))
end Go.Proofs.YtdcdfjinbieblaaGreatDoor

namespace Go.Proofs.YtdcdfjinbieblaaGreatDoor
open Go.RowKit

/-- two words and a sign are an integer -/
def Nm (h l : Nat) (s : Bool) (z : Int) : Prop := Wd h l z.natAbs ∧ s = decide (z < 0)
def NmPost (z : Int) (w : World) (e : Ending) (w' : World) : Prop := (∃ (h l : Nat) (s : Bool), e = .returned (Nd h l s) ∧ Nm h l s z) ∧ Below w.heap.size w w'
theorem ZPost.nm {z : Int} {w : World} {e : Ending} {w' : World} : ZPost z w e w' → NmPost z w e w' := fun ⟨⟨h, l, he, hw⟩, hb⟩ => ⟨⟨h, l, _, he, hw, rfl⟩, hb⟩
theorem n3opp {h l : Nat} {s : Bool} {z : Int} (hn : Nm h l s z) (w : World) : Calls Tryz.prog 105 #[Nd h l s] w (NmPost (-z) w) := by
  obtain ⟨hw, rfl⟩ := hn
  exact (r3opp_any h l z w hw).mono fun _ _ h => h.nm
theorem n3isint {h l : Nat} {s : Bool} {z : Int} (hn : Nm h l s z) (w : World) : Calls Tryz.prog 59 #[Nd h l s] w (ZIntPost z w) := by
  obtain ⟨hw, rfl⟩ := hn
  exact r3isint_any h l z w hw
theorem n3down {h l h' l' : Nat} {s s' : Bool} {x y : Int} (hx : Nm h l s x) (hy : Nm h' l' s' y) (h0 : y ≠ 0) (w : World) : Calls Tryz.prog 60 #[Nd h l s, Nd h' l' s'] w (NmPost (fdv x y) w) := by
  obtain ⟨hx, e1⟩ := hx
  obtain ⟨hy, e2⟩ := hy
  cases s <;> cases s'
  · exact (r3down_ff h l h' l' x y w hx hy h0 e1.symm e2.symm).mono fun _ _ h => h.nm
  · exact (r3down_ft h l h' l' x y w hx hy h0 e1.symm e2.symm).mono fun _ _ h => h.nm
  · exact (r3down_tf h l h' l' x y w hx hy h0 e1.symm e2.symm).mono fun _ _ h => h.nm
  · exact (r3down_tt h l h' l' x y w hx hy h0 e1.symm e2.symm).mono fun _ _ h => h.nm
theorem n3ofint (n : Int) (w : World) (hn : -9223372036854775808 ≤ n ∧ n ≤ 9223372036854775807) : Calls Tryz.prog 62 #[.int .i64 n] w (NmPost n w) := (r3ofint_any n w hn).mono fun _ _ h => h.nm
theorem n3times (a b : Int) (w : World) (ha : -9223372036854775808 ≤ a ∧ a ≤ 9223372036854775807) (hb : -9223372036854775808 ≤ b ∧ b ≤ 9223372036854775807) :
    Calls Tryz.prog 61 #[.int .i64 a, .int .i64 b] w (NmPost (a * b) w) := (r3times_any a b w ha hb).mono fun _ _ h => h.nm
set_option maxRecDepth 100000 in
set_option maxHeartbeats 4000000 in
theorem n3up {h l h' l' : Nat} {s s' : Bool} {x y : Int} (hx : Nm h l s x) (hy : Nm h' l' s' y) (h0 : y ≠ 0) (w : World) : Calls Tryz.prog 63 #[Nd h l s, Nd h' l' s'] w (NmPost (cdv x y) w) := by
  have X := (((Own.start w).alloc #[.int .u64 (h : Int), .int .u64 (l : Int), .bool s] 114).alloc #[.int .u64 (h' : Int), .int .u64 (l' : Int), .bool s'] 114).alloc #[.int .u64 0, .int .u64 0, .bool false] 114
  simp only [World.size_alloc] at X
  have O1 := hide (fun W => n3opp hx W)
  have HY := hide hy
  have H0 := hide h0
  have V := hide (show cdv x y = -fdv (-x) y from rfl)
  have hr := X.r3
  clear hx hy h0
  generalize -x = x' at *
  have HX := hide X
  clear X
  go_enter Tryz.func63, Tryz.ntmps63
  go_wp2
  go_region_with (first
    | (go_at_call 105; ((with_reducible refine (O1.out _).mono ?_); rintro e w1 ⟨⟨ah, al, sa, rfl, ha⟩, hb⟩); have D1 := hide (fun W => n3down ha HY.out H0.out W); (first | (replace HX := hide (HX.out.to hb)) | (replace HX := hide (HX.out.drew.to hb)) | (replace HX := hide (HX.out.drew.drew.to hb))); have hr := HX.out.r3; clear hb ha)
    | (go_at_call 60; ((with_reducible refine (D1.out _).mono ?_); rintro e w2 ⟨⟨qh, ql, qs, rfl, hq⟩, hb⟩); have O2 := hide (fun W => n3opp hq W); (first | (replace HX := hide (HX.out.to hb)) | (replace HX := hide (HX.out.drew.to hb)) | (replace HX := hide (HX.out.drew.drew.to hb))); have hr := HX.out.r3; clear hb hq)
    | (go_at_call 105; ((with_reducible refine (O2.out _).mono ?_); rintro e w3 ⟨⟨rh, rl, rs, rfl, hn⟩, hb⟩); have HN := hide hn; (first | (replace HX := hide (HX.out.to hb)) | (replace HX := hide (HX.out.drew.to hb)) | (replace HX := hide (HX.out.drew.drew.to hb))); have hr := HX.out.r3; clear hb hn))
  all_goals go_wp2
  all_goals exact bodyPost_ret (v := Nd rh rl rs) (by simp [results, Tryz.results63, hr, go_sem]) rfl ⟨⟨rh, rl, rs, rfl, by rw [V.out]; exact HN.out⟩, by have HX := HX.out.1; have hz := HX.size; go_grown⟩
end Go.Proofs.YtdcdfjinbieblaaGreatDoor

namespace Go.Proofs.YtdcdfjinbieblaaGreatDoor
open Go.RowKit

def One (v : Int) (w : World) (e : Ending) (w' : World) : Prop := e = .returned (.int .i64 v) ∧ Below w.heap.size w w'
set_option maxHeartbeats 1000000 in
theorem n3floorof (n num den : Int) (w : World) (h1 : -9223372036854775808 ≤ n ∧ n ≤ 9223372036854775807) (h2 : -9223372036854775808 ≤ num ∧ num ≤ 9223372036854775807) (h3 : -9223372036854775808 ≤ den ∧ den ≤ 9223372036854775807) (h0 : den ≠ 0) (hf : fitsI (fdv (n * num) den) = true) :
    Calls Tryz.prog 30 #[.int .i64 n, .int .i64 num, .int .i64 den] w (One (fdv (n * num) den) w) := by
  have X := Own.start w
  have T := hide (fun W => n3times n num W h1 h2)
  have O := hide (fun W => n3ofint den W h3)
  have H0 := hide h0
  have HF := hide hf
  clear h1 h2 h3 h0 hf
  generalize n * num = p at *
  go_enter Tryz.func30, Tryz.ntmps30
  go_wp2_with fail
  refine (T.out _).mono ?_
  rintro e w1 ⟨⟨ah, al, sa, rfl, ha⟩, hb⟩
  replace X := X.to hb
  have HA := hide ha
  clear hb ha
  go_wp2_with fail
  refine (O.out _).mono ?_
  rintro e w2 ⟨⟨dh, dl, sd, rfl, hd⟩, hb⟩
  replace X := X.to hb
  have HD := hide hd
  clear hb hd
  go_wp2_with fail
  refine (n3down HA.out HD.out H0.out _).mono ?_
  rintro e w3 ⟨⟨qh, ql, sq, rfl, hq⟩, hb⟩
  replace X := X.to hb
  have HQ := hide hq
  clear hb hq
  go_wp2_with fail
  refine (n3isint HQ.out _).mono ?_
  rintro e w4 ⟨⟨v, rfl, hv⟩, hb⟩
  replace X := X.to hb
  have HV := hide hv
  clear hb hv
  go_wp2
  go_ret
  exact ⟨ret_int (HV.out HF.out), X.1⟩
set_option maxHeartbeats 1000000 in
theorem n3ceilof (n num den : Int) (w : World) (h1 : -9223372036854775808 ≤ n ∧ n ≤ 9223372036854775807) (h2 : -9223372036854775808 ≤ num ∧ num ≤ 9223372036854775807) (h3 : -9223372036854775808 ≤ den ∧ den ≤ 9223372036854775807) (h0 : den ≠ 0) (hf : fitsI (cdv (n * num) den) = true) :
    Calls Tryz.prog 31 #[.int .i64 n, .int .i64 num, .int .i64 den] w (One (cdv (n * num) den) w) := by
  have X := Own.start w
  have T := hide (fun W => n3times n num W h1 h2)
  have O := hide (fun W => n3ofint den W h3)
  have H0 := hide h0
  have HF := hide hf
  clear h1 h2 h3 h0 hf
  generalize n * num = p at *
  go_enter Tryz.func31, Tryz.ntmps31
  go_wp2_with fail
  refine (T.out _).mono ?_
  rintro e w1 ⟨⟨ah, al, sa, rfl, ha⟩, hb⟩
  replace X := X.to hb
  have HA := hide ha
  clear hb ha
  go_wp2_with fail
  refine (O.out _).mono ?_
  rintro e w2 ⟨⟨dh, dl, sd, rfl, hd⟩, hb⟩
  replace X := X.to hb
  have HD := hide hd
  clear hb hd
  go_wp2_with fail
  refine (n3up HA.out HD.out H0.out _).mono ?_
  rintro e w3 ⟨⟨qh, ql, sq, rfl, hq⟩, hb⟩
  replace X := X.to hb
  have HQ := hide hq
  clear hb hq
  go_wp2_with fail
  refine (n3isint HQ.out _).mono ?_
  rintro e w4 ⟨⟨v, rfl, hv⟩, hb⟩
  replace X := X.to hb
  have HV := hide hv
  clear hb hv
  go_wp2
  go_ret
  exact ⟨ret_int (HV.out HF.out), X.1⟩
end Go.Proofs.YtdcdfjinbieblaaGreatDoor

namespace Go.Proofs.YtdcdfjinbieblaaGreatDoor
open Go Go.RowKit

theorem fdvP {x y : Int} (h : 0 < y) : fdv x y = dn x y := by rw [fdv_pos h]; unfold dn; rw [if_neg (by omega)]
theorem cdvP {x y : Int} (h : 0 < y) : cdv x y = up x y := by rw [cdv_pos h]; unfold up dn; rw [if_neg (by omega)]
set_option maxHeartbeats 4000000 in
theorem rpresent_no (c n d y : Int) (w : World) (h : prB c n d y = false) : Calls Tryz.prog 10 #[.int .i64 c, .int .i64 n, .int .i64 d, .int .i64 y] w (ErrP 2 w) := by
  have h' : ¬ (((0 ≤ c ∧ c ≤ 1125899906842624) ∧ (0 ≤ n ∧ n ≤ 10000) ∧ (1 ≤ d ∧ d ≤ 10000) ∧ (0 ≤ y ∧ y ≤ 200))) := fun q => by
    have : prB c n d y = true := prB_iff.2 (by omega)
    rw [this] at h; cases h
  have X := (Own.start w).alloc #[.int .i64 0, .int .i64 0] 36
  have hr := X.r1
  have XB := hide X.1
  have ways : (decide (c < 0) = true) ∨ (decide (c < 0) = false ∧ decide (1125899906842624 < c) = true) ∨ (decide (c < 0) = false ∧ decide (1125899906842624 < c) = false ∧ decide (n < 0) = true) ∨ (decide (c < 0) = false ∧ decide (1125899906842624 < c) = false ∧ decide (n < 0) = false ∧ decide (10000 < n) = true) ∨ (decide (c < 0) = false ∧ decide (1125899906842624 < c) = false ∧ decide (n < 0) = false ∧ decide (10000 < n) = false ∧ decide (d < 1) = true) ∨ (decide (c < 0) = false ∧ decide (1125899906842624 < c) = false ∧ decide (n < 0) = false ∧ decide (10000 < n) = false ∧ decide (d < 1) = false ∧ decide (10000 < d) = true) ∨ (decide (c < 0) = false ∧ decide (1125899906842624 < c) = false ∧ decide (n < 0) = false ∧ decide (10000 < n) = false ∧ decide (d < 1) = false ∧ decide (10000 < d) = false ∧ decide (y < 0) = true) ∨ (decide (c < 0) = false ∧ decide (1125899906842624 < c) = false ∧ decide (n < 0) = false ∧ decide (10000 < n) = false ∧ decide (d < 1) = false ∧ decide (10000 < d) = false ∧ decide (y < 0) = false ∧ decide (200 < y) = true) := by
    simp only [decide_eq_true_eq, decide_eq_false_iff_not]; omega
  clear h h' X
  rcases ways with q1 | ⟨q1, q2⟩ | ⟨q1, q2, q3⟩ | ⟨q1, q2, q3, q4⟩ | ⟨q1, q2, q3, q4, q5⟩ | ⟨q1, q2, q3, q4, q5, q6⟩ | ⟨q1, q2, q3, q4, q5, q6, q7⟩ | ⟨q1, q2, q3, q4, q5, q6, q7, q8⟩
  all_goals
    go_enter Tryz.func10, Tryz.ntmps10
    go_wp2
    exact bodyPost_ret (v := .tuple #[.agg #[.int .i64 0, .int .i64 0], .int .i64 2]) (by simp [results, Tryz.results10, hr, go_sem]) rfl ⟨rfl, by have HX := XB.out; have hz := HX.size; go_grown⟩
set_option maxRecDepth 100000 in
set_option maxHeartbeats 4000000 in
theorem rpresent_ok (c n d : Int) (y : Nat) (w : World) (hc : 0 ≤ c ∧ c ≤ 1125899906842624) (hn : 0 ≤ n ∧ n ≤ 10000) (hd : 1 ≤ d ∧ d ≤ 10000) (hy : y ≤ 200) : Calls Tryz.prog 10 #[.int .i64 c, .int .i64 n, .int .i64 d, .int .i64 (y : Int)] w (RetW (.tuple #[.agg #[.int .i64 (prL n d y c), .int .i64 (prU n d y c)], .int .i64 0]) w) := by
  have q1 : decide (c < 0) = false := decide_eq_false (by omega)
  have q2 : decide (1125899906842624 < c) = false := decide_eq_false (by omega)
  have q3 : decide (n < 0) = false := decide_eq_false (by omega)
  have q4 : decide (10000 < n) = false := decide_eq_false (by omega)
  have q5 : decide (d < 1) = false := decide_eq_false (by omega)
  have q6 : decide (10000 < d) = false := decide_eq_false (by omega)
  have q7 : decide ((y : Int) < 0) = false := decide_eq_false (by omega)
  have q8 : decide (200 < (y : Int)) = false := decide_eq_false (by omega)
  have q9 : decide (200 < y) = false := decide_eq_false (by omega)
  have FL := hide (fun (x : Int) (hx : 0 ≤ x ∧ x ≤ 1125899906842624) W => n3floorof x d (d + n) W (by omega) (by omega) (by omega) (by omega) (decide_eq_true (by
    rw [fdvP (by omega)]
    have := dn_step (n := n) (d := d) (x := x) hn.1 hd.1 hx.1
    omega)))
  have CL := hide (fun (x : Int) (hx : 0 ≤ x ∧ x ≤ 1125899906842624) W => n3ceilof x d (d + n) W (by omega) (by omega) (by omega) (by omega) (decide_eq_true (by
    rw [cdvP (by omega)]
    have := up_step (n := n) (d := d) (x := x) hn.1 hd.1 hx.1
    omega)))
  have BD := hide (fun k => pr_bd (c := c) hn.1 hd.1 hc.1 k)
  have X := (Own.start w).alloc #[.int .i64 0, .int .i64 0] 36
  have hr := X.r1
  have ws := IntWalk.i64_in (d + n) (by omega)
  have nz : 0 < d + n := by omega
  have NZ := hide nz
  obtain ⟨c0, c1⟩ := hc
  clear hn hd nz
  go_enter Tryz.func10, Tryz.ntmps10
  go_wp2
  have HX0 := hide (X.alloc #[.int .i64 c, .int .i64 c] 36)
  simp only [World.size_alloc] at HX0
  clear X hr q1 q2 q3 q4 q5 q6 q7 q8 q9
  go_loopw [11] (fun v39 wr => ∃ k : Nat, k ≤ y ∧ v39 = .int .i64 (k : Int) ∧ Hid (Own w wr [(w.heap.size + 1, 36, #[.int .i64 (prL n d k c), .int .i64 (prU n d k c)]), (w.heap.size, 36, #[.int .i64 0, .int .i64 0])])) (fun v _ => y - (intOf v).toNat)
  case atStart => exact ⟨0, by omega, rfl, HX0⟩
  case round =>
    clear HX0
    obtain ⟨k, hk, rfl, HX⟩ := hrel
    have hr := HX.out.r2
    by_cases hlt : k < y
    · have g1 : decide (k < y) = true := decide_eq_true hlt
      obtain ⟨b1, b2, b3⟩ := BD.out k
      have S1 := hide (FL.out (prL n d k c) (by omega))
      have S2 := hide (CL.out (prU n d k c) (by omega))
      rw [fdvP NZ.out] at S1
      rw [cdvP NZ.out] at S2
      unfold One at S1 S2
      have EL : Hid (prL n d (k + 1) c = dn (prL n d k c * d) (d + n)) := hide rfl
      have EU : Hid (prU n d (k + 1) c = up (prU n d k c * d) (d + n)) := hide rfl
      generalize dn (prL n d k c * d) (d + n) = l1 at *
      generalize up (prU n d k c * d) (d + n) = u1 at *
      generalize prL n d k c = l0 at *
      generalize prU n d k c = u0 at *
      clear FL CL BD b1 b2 b3
      generalize hdn : d + n = dnn at *
      have ws2 : IntKind.i64.wrap (d + n) = dnn := by rw [hdn]; exact ws
      clear hdn ws NZ
      have NE : Nonempty (OwnW w [(w.heap.size + 1, 36, #[.int .i64 l0, .int .i64 u0]), (w.heap.size, 36, #[.int .i64 0, .int .i64 0])]) := ⟨⟨_, HX.out⟩⟩
      have C1 := fun z : OwnW w [(w.heap.size + 1, 36, #[.int .i64 l0, .int .i64 u0]), (w.heap.size, 36, #[.int .i64 0, .int .i64 0])] => z.own.r2
      go_upto_region 7 with (fail)
      refine wp_region_own_tail (w := w) (L := [(w.heap.size + 1, 36, #[.int .i64 l0, .int .i64 u0]), (w.heap.size, 36, #[.int .i64 0, .int .i64 0])]) 15 (by kernel_rfl) (by kernel_rfl) HX.out ?_
      simp only [List.take_succ_cons, List.take_zero, List.drop_succ_cons, List.drop_zero]
      repeat (go_big_quiet_step ((rename_i z; first | with_reducible exact own_call (S1.out _) | with_reducible exact own_call (S2.out _))))
      refine wpQuiet_nil ?_
      rintro W3 ⟨⟨W3, HO⟩, rfl⟩
      have hr3 := HO.r2
      have HZ : Hid (Own w ((W3.setCell ⟨w.heap.size + 1, 0, none⟩ (.int .i64 l1)).setCell ⟨w.heap.size + 1, 1, none⟩ (.int .i64 u1)) [(w.heap.size + 1, 36, #[.int .i64 (prL n d (k + 1) c), .int .i64 (prU n d (k + 1) c)]), (w.heap.size, 36, #[.int .i64 0, .int .i64 0])]) := hide (by
        rw [EL.out, EU.out]
        exact (HO.set0 (by omega) (by simp) 0 (.int .i64 l1)).set0 (by omega) (by simp) 1 (.int .i64 u1))
      clear HX HO EL EU NE C1 hr
      go_wp2
      go_roundw
      case rel => exact ⟨k + 1, by omega, by go_num, HZ⟩
      case measure => simp [intOf]; omega
    · obtain rfl : k = y := by omega
      have g1 : decide (k < k) = false := decide_eq_false (by omega)
      have XB := hide HX.out.1
      generalize prL n d k c = l0 at *
      generalize prU n d k c = u0 at *
      clear FL CL BD HX
      go_wp2
      exact bodyPost_ret (v := .tuple #[.agg #[.int .i64 l0, .int .i64 u0], .int .i64 0]) (by simp [results, Tryz.results10, hr, go_sem]) rfl ⟨rfl, by have HX := XB.out; have hz := HX.size; go_grown⟩
theorem rpresent_any (c n d y : Int) (w : World) : Calls Tryz.prog 10 #[.int .i64 c, .int .i64 n, .int .i64 d, .int .i64 y] w (RetW (.tuple #[(prS c n d y).val, .int .i64 (prE c n d y)]) w) := by
  by_cases h : prB c n d y = true
  · obtain ⟨h1, h2, h3, h4, h5⟩ := prB_iff.1 h
    obtain ⟨k, rfl⟩ : ∃ k : Nat, y = (k : Int) := ⟨y.toNat, by omega⟩
    unfold prS prE
    rw [if_pos h, if_pos h]
    exact rpresent_ok c n d k w h1 h2 h3 (by omega)
  · unfold prS prE
    rw [if_neg h, if_neg h]
    exact rpresent_no c n d y w (by simpa using h)
end Go.Proofs.YtdcdfjinbieblaaGreatDoor
