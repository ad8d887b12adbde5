/- The reference's integers (sewershedref03): Made, OfInt, Times, Opposite, IsInt, Down, Up, FloorOf, CeilOf: what each returns; nothing that was there is turned (printed by gen_rf3.py). -/
import Derived.Test.YtgflgnbbkhikcaaDoorRf3D
import Derived.Deep.QuietTactic
import Derived.BigQuiet
namespace Go.Proofs.YtgflgnbbkhikcaaDoor
open Go.RowKit

abbrev Nd (h l : Nat) (s : Bool) : Value := .agg #[.int .u64 (h : Int), .int .u64 (l : Int), .bool s]
/-- the integer z is returned; nothing that was there is turned -/
def ZPost (z : Int) (w : World) (e : Ending) (w' : World) : Prop := (∃ h l : Nat, e = .returned (Nd h l (decide (z < 0))) ∧ Wd h l z.natAbs) ∧ Below w.heap.size w w'
theorem r3made_sign {h l : Nat} {z : Int} {s : Bool} (hw : Wd h l z.natAbs) (hs : z ≠ 0 → s = decide (z < 0)) : (s && !decide (h = 0 ∧ l = 0)) = decide (z < 0) := by
  obtain ⟨h1, h2, h3⟩ := hw
  by_cases hz : z = 0
  · subst hz
    have e : h = 0 ∧ l = 0 := by simp at h3; omega
    simp [e]
  · rw [hs hz]
    have e : ¬ (h = 0 ∧ l = 0) := by omega
    simp [e]
theorem ZPost.mk {z : Int} {h l : Nat} {s s' : Bool} {w w' : World} (hw : Wd h l z.natAbs) (h' : s' = (s && !decide (h = 0 ∧ l = 0))) (hs : z ≠ 0 → s = decide (z < 0)) (hb : Below w.heap.size w w') : ZPost z w (.returned (Nd h l s')) w' :=
  ⟨⟨h, l, by rw [h', r3made_sign hw hs], hw⟩, hb⟩
theorem Own.drewN3 {w W : World} {L : List (Nat × TypeId × Array Value)} (h : Own w W L) (n : Nat) : Own w (W.drewN n) L := ⟨⟨h.1.os, h.1.tape, h.1.output, h.1.size, h.1.block⟩, fun x hx => (h.2 x hx).drewN n⟩
set_option maxHeartbeats 1000000 in
theorem r3made_any (h l : Nat) (s : Bool) (w : World) :
    Calls Tryd.prog 61 #[Ud h l, .bool s] w fun e w' => (∃ s' : Bool, e = .returned (Nd h l s') ∧ s' = (s && !decide (h = 0 ∧ l = 0))) ∧ Below w.heap.size w w' := by
  have X := ((Own.start w).alloc (Uc h l) 57).alloc #[.int .u64 0, .int .u64 0, .bool false] 59
  simp only [World.size_alloc] at X
  have hr := X.r2
  have t : (s = false) ∨ (s = true ∧ h ≠ 0) ∨ (s = true ∧ h = 0 ∧ l ≠ 0) ∨ (s = true ∧ h = 0 ∧ l = 0) := by cases s <;> simp <;> omega
  rcases t with rfl | ⟨rfl, t1⟩ | ⟨rfl, rfl, t1⟩ | ⟨rfl, rfl, rfl⟩
  · go_enter Tryd.func61, Tryd.ntmps61
    go_wp2
    go_region
    all_goals go_wp2
    all_goals exact bodyPost_ret (v := Nd h l false) (by simp [results, Tryd.results61, go_sem]) rfl ⟨⟨_, rfl, by simp⟩, by have HX := X.1; have hz := HX.size; go_grown⟩
  · have q : ((h : Int) == 0) = false := by simp; omega
    have V := hide (show decide (h = 0 ∧ l = 0) = false by simp; omega)
    clear t1
    go_enter Tryd.func61, Tryd.ntmps61
    go_wp2
    go_region
    all_goals go_wp2
    all_goals exact bodyPost_ret (v := Nd h l true) (by simp [results, Tryd.results61, go_sem]) rfl ⟨⟨_, rfl, by rw [V.out]; rfl⟩, by have HX := X.1; have hz := HX.size; go_grown⟩
  · have q : ((l : Int) == 0) = false := by simp; omega
    have V := hide (show decide ((0 : Nat) = 0 ∧ l = 0) = false by simp; omega)
    clear t1
    go_enter Tryd.func61, Tryd.ntmps61
    go_wp2
    go_region
    all_goals go_wp2
    all_goals exact bodyPost_ret (v := Nd 0 l true) (by simp [results, Tryd.results61, go_sem]) rfl ⟨⟨_, rfl, by rw [V.out]; rfl⟩, by have HX := X.1; have hz := HX.size; go_grown⟩
  · go_enter Tryd.func61, Tryd.ntmps61
    go_wp2
    go_region
    all_goals go_wp2
    all_goals exact bodyPost_ret (v := Nd 0 0 false) (by simp [results, Tryd.results61, go_sem]) rfl ⟨⟨_, rfl, by simp⟩, by have HX := X.1; have hz := HX.size; go_grown⟩
set_option maxHeartbeats 1000000 in
theorem r3ofint_any (n : Int) (w : World) (hn : -9223372036854775808 ≤ n ∧ n ≤ 9223372036854775807) :
    Calls Tryd.prog 42 #[.int .i64 n] w (ZPost n w) := by
  have X := (Own.start w).alloc #[.int .u64 0, .int .u64 0, .bool false] 59
  have hr := X.r1
  obtain ⟨m, hm⟩ : ∃ m : Nat, n.natAbs = m := ⟨_, rfl⟩
  have S := hide (fun W => r3size_any n m W hm (by omega))
  have V := hide (show Wd 0 m n.natAbs from ⟨by omega, by omega, by omega⟩)
  clear hn hm
  by_cases t : n < 0
  all_goals
    have E := hide t
    go_enter Tryd.func42, Tryd.ntmps42
    go_wp2_with fail
    refine (S.out _).mono ?_
    rintro e w1 ⟨rfl, rfl⟩
    go_wp2_with fail
  · refine (r3made_any 0 m _ _).mono ?_
    rintro e w1 ⟨⟨s', rfl, hs⟩, hb⟩
    replace X := X.to hb
    have HG := hide hs
    clear hb hr hs
    have hr := X.r1
    go_wp2
    exact bodyPost_ret (v := Nd 0 m s') (by simp [results, Tryd.results42, hr, go_sem]) rfl (ZPost.mk (s := true) V.out (HG.out.trans (by simp)) (fun _ => by have := E.out; simp; omega) (by have HX := X.1; have hz := HX.size; go_grown))
  · refine (r3made_any 0 m _ _).mono ?_
    rintro e w1 ⟨⟨s', rfl, hs⟩, hb⟩
    replace X := X.to hb
    have HG := hide hs
    clear hb hr hs
    have hr := X.r1
    go_wp2
    exact bodyPost_ret (v := Nd 0 m s') (by simp [results, Tryd.results42, hr, go_sem]) rfl (ZPost.mk (s := false) V.out (HG.out.trans (by have := E.out; simp; omega)) (fun _ => by have := E.out; simp; omega) (by have HX := X.1; have hz := HX.size; go_grown))
theorem sign_mul {a b : Int} (h : a * b ≠ 0) : (decide (a < 0) != decide (b < 0)) = decide (a * b < 0) := by
  have ha : a ≠ 0 := fun e => h (by rw [e, Int.zero_mul])
  have hb : b ≠ 0 := fun e => h (by rw [e, Int.mul_zero])
  rcases Int.lt_or_gt_of_ne ha with x | x <;> rcases Int.lt_or_gt_of_ne hb with y | y
  · have := Int.mul_pos_of_neg_of_neg x y
    have e1 : ¬ a * b < 0 := by omega
    simp [x, y, e1]
  · have := Int.mul_neg_of_neg_of_pos x y
    have e1 : ¬ b < 0 := by omega
    simp [x, e1, this]
  · have := Int.mul_neg_of_pos_of_neg x y
    have e1 : ¬ a < 0 := by omega
    simp [y, e1, this]
  · have := Int.mul_pos x y
    have e1 : ¬ a < 0 := by omega
    have e2 : ¬ b < 0 := by omega
    have e3 : ¬ a * b < 0 := by omega
    simp [e1, e2, e3]
set_option maxHeartbeats 1000000 in
theorem r3times_any (a b : Int) (w : World) (ha : -9223372036854775808 ≤ a ∧ a ≤ 9223372036854775807) (hb : -9223372036854775808 ≤ b ∧ b ≤ 9223372036854775807) :
    Calls Tryd.prog 43 #[.int .i64 a, .int .i64 b] w (ZPost (a * b) w) := by
  have X := (Own.start w).alloc #[.int .u64 0, .int .u64 0, .bool false] 59
  have hr := X.r1
  obtain ⟨m, hm⟩ : ∃ m : Nat, a.natAbs = m := ⟨_, rfl⟩
  obtain ⟨n, hn⟩ : ∃ n : Nat, b.natAbs = n := ⟨_, rfl⟩
  have S1 := hide (fun W => r3size_any a m W hm (by omega))
  have S2 := hide (fun W => r3size_any b n W hn (by omega))
  have M := hide (fun W => r3mul_any m n W (by omega) (by omega))
  have V := hide (show (a * b).natAbs = m * n by rw [Int.natAbs_mul, hm, hn])
  have SG := hide (fun h => sign_mul (a := a) (b := b) h)
  clear ha hb hm hn
  generalize a * b = z at *
  rcases Int.lt_or_le a 0 with t1 | t1 <;> rcases Int.lt_or_le b 0 with t2 | t2
  · have EE := hide (And.intro (show decide (a < 0) = true from decide_eq_true t1) (show decide (b < 0) = true from decide_eq_true t2))
    go_enter Tryd.func43, Tryd.ntmps43
    go_wp2_with fail
    refine (S1.out _).mono ?_
    rintro e w1 ⟨rfl, rfl⟩
    go_wp2_with fail
    refine (S2.out _).mono ?_
    rintro e w1 ⟨rfl, rfl⟩
    go_wp2_with fail
    refine (M.out _).mono ?_
    rintro e w1 ⟨⟨h, l, rfl, hw⟩, hb⟩
    replace X := X.to hb
    rw [← V.out] at hw
    have HW := hide hw
    clear hb hr hw
    have hr := X.r1
    go_wp2_with fail
    refine (r3made_any h l _ _).mono ?_
    rintro e w1 ⟨⟨s', rfl, hs⟩, hb⟩
    replace X := X.to hb
    have HG := hide hs
    clear hb hr hs
    have hr := X.r1
    go_wp2
    exact bodyPost_ret (v := Nd h l s') (by simp [results, Tryd.results43, hr, go_sem]) rfl (ZPost.mk HW.out (HG.out.trans (by rw [EE.out.1, EE.out.2]; rfl)) SG.out (by have HX := X.1; have hz := HX.size; go_grown))
  · have EE := hide (And.intro (show decide (a < 0) = true from decide_eq_true t1) (show decide (b < 0) = false from decide_eq_false (by omega)))
    go_enter Tryd.func43, Tryd.ntmps43
    go_wp2_with fail
    refine (S1.out _).mono ?_
    rintro e w1 ⟨rfl, rfl⟩
    go_wp2_with fail
    refine (S2.out _).mono ?_
    rintro e w1 ⟨rfl, rfl⟩
    go_wp2_with fail
    refine (M.out _).mono ?_
    rintro e w1 ⟨⟨h, l, rfl, hw⟩, hb⟩
    replace X := X.to hb
    rw [← V.out] at hw
    have HW := hide hw
    clear hb hr hw
    have hr := X.r1
    go_wp2_with fail
    refine (r3made_any h l _ _).mono ?_
    rintro e w1 ⟨⟨s', rfl, hs⟩, hb⟩
    replace X := X.to hb
    have HG := hide hs
    clear hb hr hs
    have hr := X.r1
    go_wp2
    exact bodyPost_ret (v := Nd h l s') (by simp [results, Tryd.results43, hr, go_sem]) rfl (ZPost.mk HW.out (HG.out.trans (by rw [EE.out.1, EE.out.2]; rfl)) SG.out (by have HX := X.1; have hz := HX.size; go_grown))
  · have EE := hide (And.intro (show decide (a < 0) = false from decide_eq_false (by omega)) (show decide (b < 0) = true from decide_eq_true t2))
    go_enter Tryd.func43, Tryd.ntmps43
    go_wp2_with fail
    refine (S1.out _).mono ?_
    rintro e w1 ⟨rfl, rfl⟩
    go_wp2_with fail
    refine (S2.out _).mono ?_
    rintro e w1 ⟨rfl, rfl⟩
    go_wp2_with fail
    refine (M.out _).mono ?_
    rintro e w1 ⟨⟨h, l, rfl, hw⟩, hb⟩
    replace X := X.to hb
    rw [← V.out] at hw
    have HW := hide hw
    clear hb hr hw
    have hr := X.r1
    go_wp2_with fail
    refine (r3made_any h l _ _).mono ?_
    rintro e w1 ⟨⟨s', rfl, hs⟩, hb⟩
    replace X := X.to hb
    have HG := hide hs
    clear hb hr hs
    have hr := X.r1
    go_wp2
    exact bodyPost_ret (v := Nd h l s') (by simp [results, Tryd.results43, hr, go_sem]) rfl (ZPost.mk HW.out (HG.out.trans (by rw [EE.out.1, EE.out.2]; rfl)) SG.out (by have HX := X.1; have hz := HX.size; go_grown))
  · have EE := hide (And.intro (show decide (a < 0) = false from decide_eq_false (by omega)) (show decide (b < 0) = false from decide_eq_false (by omega)))
    go_enter Tryd.func43, Tryd.ntmps43
    go_wp2_with fail
    refine (S1.out _).mono ?_
    rintro e w1 ⟨rfl, rfl⟩
    go_wp2_with fail
    refine (S2.out _).mono ?_
    rintro e w1 ⟨rfl, rfl⟩
    go_wp2_with fail
    refine (M.out _).mono ?_
    rintro e w1 ⟨⟨h, l, rfl, hw⟩, hb⟩
    replace X := X.to hb
    rw [← V.out] at hw
    have HW := hide hw
    clear hb hr hw
    have hr := X.r1
    go_wp2_with fail
    refine (r3made_any h l _ _).mono ?_
    rintro e w1 ⟨⟨s', rfl, hs⟩, hb⟩
    replace X := X.to hb
    have HG := hide hs
    clear hb hr hs
    have hr := X.r1
    go_wp2
    exact bodyPost_ret (v := Nd h l s') (by simp [results, Tryd.results43, hr, go_sem]) rfl (ZPost.mk HW.out (HG.out.trans (by rw [EE.out.1, EE.out.2]; rfl)) SG.out (by have HX := X.1; have hz := HX.size; go_grown))
set_option maxHeartbeats 1000000 in
theorem r3opp_any (h l : Nat) (z : Int) (w : World) (hw : Wd h l z.natAbs) :
    Calls Tryd.prog 66 #[Nd h l (decide (z < 0))] w (ZPost (-z) w) := by
  have X := ((Own.start w).alloc #[.int .u64 (h : Int), .int .u64 (l : Int), .bool (decide (z < 0))] 59).alloc #[.int .u64 0, .int .u64 0, .bool false] 59
  simp only [World.size_alloc] at X
  have V := hide (show Wd h l (-z).natAbs by rw [Int.natAbs_neg]; exact hw)
  have SG := hide (show -z ≠ 0 → (!decide (z < 0)) = decide (-z < 0) from fun h => by
    by_cases t : z < 0
    · have t' : ¬ -z < 0 := by omega
      rw [decide_eq_true t, decide_eq_false t']; rfl
    · have t' : -z < 0 := by omega
      rw [decide_eq_false t, decide_eq_true t']; rfl)
  clear hw
  generalize decide (z < 0) = s at *
  have hr := X.r2
  go_enter Tryd.func66, Tryd.ntmps66
  go_wp2_with fail
  refine (r3made_any h l (!s) _).mono ?_
  rintro e w1 ⟨⟨s', rfl, hs⟩, hb⟩
  replace X := X.to hb
  have HG := hide hs
  clear hb hr hs
  have hr := X.r2
  go_wp2
  exact bodyPost_ret (v := Nd h l s') (by simp [results, Tryd.results66, hr, go_sem]) rfl (ZPost.mk V.out HG.out SG.out (by have HX := X.1; have hz := HX.size; go_grown))
def fitsI (z : Int) : Bool := decide (-9223372036854775808 ≤ z ∧ z ≤ 9223372036854775807)
def ZIntPost (z : Int) (w : World) (e : Ending) (w' : World) : Prop := (∃ v : Int, e = .returned (.tuple #[.int .i64 v, .bool (fitsI z)]) ∧ (fitsI z = true → v = z)) ∧ Below w.heap.size w w'
theorem ZIntPost.mk {z v : Int} {b : Bool} {w w' : World} (h1 : fitsI z = b) (h2 : b = true → v = z) (hb : Below w.heap.size w w') : ZIntPost z w (.returned (.tuple #[.int .i64 v, .bool b])) w' := by
  subst h1; exact ⟨⟨v, rfl, h2⟩, hb⟩
set_option maxRecDepth 100000 in
set_option maxHeartbeats 1000000 in
theorem r3isint_any (h l : Nat) (z : Int) (w : World) (hw : Wd h l z.natAbs) :
    Calls Tryd.prog 68 #[Nd h l (decide (z < 0))] w (ZIntPost z w) := by
  have X := (Own.start w).alloc #[.int .u64 (h : Int), .int .u64 (l : Int), .bool (decide (z < 0))] 59
  obtain ⟨w1, w2, w3⟩ := hw
  obtain ⟨m, hm⟩ : ∃ m : Nat, (m : Int) = IntKind.u64.wrap (0 - (l : Int)) := ⟨(IntKind.u64.wrap (0 - (l : Int))).toNat, by rw [IntKind.wrap_u64]; omega⟩
  have e1 : IntKind.u64.wrap (0 - (l : Int)) = (m : Int) := hm.symm
  have e1' : IntKind.u64.wrap (-(l : Int)) = (m : Int) := by rw [← e1]; congr 1; omega
  rw [IntKind.wrap_u64] at hm
  obtain ⟨v, hv⟩ : ∃ v : Int, IntKind.i64.wrap (m : Int) = v := ⟨_, rfl⟩
  obtain ⟨u, hu⟩ : ∃ u : Int, IntKind.i64.wrap (l : Int) = u := ⟨_, rfl⟩
  have hv' := hv
  have hu' := hu
  rw [IntKind.wrap_i64] at hv' hu'
  have t : (h ≠ 0) ∨ (h = 0 ∧ 9223372036854775808 < l) ∨ (h = 0 ∧ l ≤ 9223372036854775808) := by omega
  by_cases s : z < 0
  · rw [decide_eq_true s] at X ⊢
    have hr := X.r1
    rcases t with t | ⟨rfl, t⟩ | ⟨rfl, t⟩
    · have q : ((h : Int) == 0) = false := by simp; omega
      have V := hide (show fitsI z = false from decide_eq_false (by omega))
      clear t w1 w2 w3 hm hv' hu' s
      go_enter Tryd.func68, Tryd.ntmps68
      go_wp2
      go_quiet (fail)
      go_wp2
      go_ret2
      exact ZIntPost.mk V.out (fun h => by cases h) ((X.drewN3 nq).1)
    · have q : decide ((l : Int) ≤ 9223372036854775808) = false := decide_eq_false (by omega)
      have V := hide (show fitsI z = false from decide_eq_false (by omega))
      clear t w1 w2 w3 hm hv' hu' s
      go_enter Tryd.func68, Tryd.ntmps68
      go_wp2
      go_quiet (fail)
      go_wp2
      go_ret2
      exact ZIntPost.mk V.out (fun h => by cases h) ((X.drewN3 nq).1)
    · have q : decide ((l : Int) ≤ 9223372036854775808) = true := decide_eq_true (by omega)
      have V := hide (show fitsI z = true from decide_eq_true (by omega))
      have V2 := hide (show v = z by omega)
      clear t w1 w2 w3 hm hv' hu' s
      go_enter Tryd.func68, Tryd.ntmps68
      go_wp2
      go_quiet (fail)
      go_wp2
      go_ret2
      exact ZIntPost.mk V.out (fun _ => V2.out) ((X.drewN3 nq).1)
  · rw [decide_eq_false s] at X ⊢
    have hr := X.r1
    have t' : (h ≠ 0) ∨ (h = 0 ∧ 9223372036854775808 ≤ l) ∨ (h = 0 ∧ l < 9223372036854775808) := by omega
    clear t
    rcases t' with t | ⟨rfl, t⟩ | ⟨rfl, t⟩
    · have q : ((h : Int) == 0) = false := by simp; omega
      have V := hide (show fitsI z = false from decide_eq_false (by omega))
      clear t w1 w2 w3 hm hv' hu' s
      go_enter Tryd.func68, Tryd.ntmps68
      go_wp2
      go_quiet (fail)
      go_wp2
      go_ret2
      exact ZIntPost.mk V.out (fun h => by cases h) ((X.drewN3 nq).1)
    · have q : decide ((l : Int) < 9223372036854775808) = false := decide_eq_false (by omega)
      have V := hide (show fitsI z = false from decide_eq_false (by omega))
      clear t w1 w2 w3 hm hv' hu' s
      go_enter Tryd.func68, Tryd.ntmps68
      go_wp2
      go_quiet (fail)
      go_wp2
      go_ret2
      exact ZIntPost.mk V.out (fun h => by cases h) ((X.drewN3 nq).1)
    · have q : decide ((l : Int) < 9223372036854775808) = true := decide_eq_true (by omega)
      have V := hide (show fitsI z = true from decide_eq_true (by omega))
      have V2 := hide (show u = z by omega)
      clear t w1 w2 w3 hm hv' hu' s
      go_enter Tryd.func68, Tryd.ntmps68
      go_wp2
      go_quiet (fail)
      go_wp2
      go_ret2
      exact ZIntPost.mk V.out (fun _ => V2.out) ((X.drewN3 nq).1)
end Go.Proofs.YtgflgnbbkhikcaaDoor
