/- The program's fractions: size, common, Valid, Make: what each returns; nothing that was there is turned. -/
import Derived.Test.YtbmckddjdkjplaaDoorRtPlain
import Derived.Test.YtbmckddjdkjplaaDoorOwn2
import Derived.Deep.QuietTactic
import Derived.BigQuiet
import Derived.StillTailTactics
import Derived.Deep.RegionHeld3
namespace Go.Proofs.YtbmckddjdkjplaaDoor
open Go.RowKit

theorem quiet_eq {P : Program} {f : FuncId} {args : Array Value} {w : World} {n : Nat} {v : Value} (h : Calls P f args (w.drewN n) fun e w' => e = .returned v ∧ w.drewN n = w') : Calls P f args (w.drewN n) fun e w'' => e = .returned v ∧ ∃ m, w'' = w.drewN m :=
  h.mono fun _ _ ⟨h1, h2⟩ => ⟨h1, n, h2.symm⟩
theorem below_dn {B : Nat} {w w' : World} (h : Below B w w') (n : Nat) : Below B w (w'.drewN n) := ⟨h.os, h.tape, h.output, h.size, h.block⟩
theorem Own.drewN {w W : World} {L : List (Nat × TypeId × Array Value)} (h : Own w W L) (n : Nat) : Own w (W.drewN n) L := ⟨below_dn h.1 n, fun x hx => (h.2 x hx).drewN n⟩
/-- the call returns v, and draws at most -/
def RetQ (v : Value) (w : World) (e : Ending) (w' : World) : Prop := e = .returned v ∧ ∃ m, w' = w.drewN m
def RetB (v : Value) (w : World) (e : Ending) (w' : World) : Prop := e = .returned v ∧ Below w.heap.size w w'
theorem drewN_below (w : World) (m : Nat) : Below w.heap.size w (w.drewN m) := ⟨rfl, rfl, rfl, Nat.le_refl _, fun _ _ => rfl⟩
theorem wrap_abs_neg {n : Int} (h0 : -9223372036854775808 ≤ n) (h : n < 0) : IntKind.u64.wrap (-IntKind.u64.wrap n) = (n.natAbs : Int) := by rw [IntKind.wrap_u64, IntKind.wrap_u64]; omega
theorem wrap_abs_pos {n : Int} (h1 : n ≤ 9223372036854775807) (h : 0 ≤ n) : IntKind.u64.wrap n = (n.natAbs : Int) := by rw [IntKind.wrap_u64]; omega
set_option maxHeartbeats 400000 in
theorem size_any (n : Int) (w : World) (h0 : -9223372036854775808 ≤ n) (h1 : n ≤ 9223372036854775807) : Calls Tryd.prog 43 #[.int .i64 n] w fun e w' => e = .returned (.int .u64 (n.natAbs : Int)) ∧ w = w' := by
  by_cases h : n < 0
  · have hw := wrap_abs_neg h0 h
    generalize (n.natAbs : Int) = m at *
    go_enter Tryd.func43, Tryd.ntmps43
    go_wp2
    go_ret
    exact ⟨rfl, rfl⟩
  · have hw := wrap_abs_pos h1 (by omega)
    generalize (n.natAbs : Int) = m at *
    go_enter Tryd.func43, Tryd.ntmps43
    go_wp2
    go_ret
    exact ⟨rfl, rfl⟩
set_option maxRecDepth 100000 in
set_option maxHeartbeats 1000000 in
theorem common_any (a b : Nat) (w : World) (ha : a < 18446744073709551616) (hb : b < 18446744073709551616) : Calls Tryd.prog 44 #[.int .u64 (a : Int), .int .u64 (b : Int)] w fun e w' => e = .returned (.int .u64 ((Nat.gcd a b : Nat) : Int)) ∧ ∃ m, w' = w.drewN m := by
  go_enter Tryd.func44, Tryd.ntmps44
  go_wp2
  go_loopw [0, 1] (fun v0 v1 wr => ∃ x y m : Nat, v0 = .int .u64 (x : Int) ∧ v1 = .int .u64 (y : Int) ∧ wr = w.drewN m ∧ Hid (Nat.gcd x y = Nat.gcd a b) ∧ x < 18446744073709551616 ∧ y < 18446744073709551616) (fun _ v1 _ => (intOf v1).toNat)
  case atStart => exact ⟨a, b, 0, rfl, rfl, by simp [World.drewN_zero], hide rfl, ha, hb⟩
  case round =>
    obtain ⟨x, y, m, rfl, rfl, rfl, HG, hx, hy⟩ := hrel
    by_cases h : y = 0
    · subst h
      have hg : Nat.gcd a b = x := by rw [← HG.out, Nat.gcd_zero_right]
      go_wp2
      go_ret
      exact ⟨ret_int (by rw [hg]), m, rfl⟩
    · have hy0 : (y : Int) ≠ 0 := by omega
      have he : (x : Int).tmod (y : Int) = ((x % y : Nat) : Int) := by rw [Int.tmod_eq_emod_of_nonneg (by omega)]; exact (Int.natCast_emod x y).symm
      have hl : x % y < y := Nat.mod_lt _ (by omega)
      have HG' := hide (And.intro ((Nat.gcd_rec y x).symm.trans ((Nat.gcd_comm y x).trans HG.out)) hl)
      clear hl
      generalize x % y = z at *
      go_wp2_with fail
      go_quiet (fail)
      go_wp2
      go_roundw
      case rel => exact ⟨y, z, m + nq, by go_num, by go_num, by first | rfl | (rw [World.drewN_add]) | simp, hide ((Nat.gcd_comm y z).trans HG'.out.1), by omega, by have := HG'.out.2; omega⟩
      case measure => have := HG'.out.2; simp [intOf]; omega
set_option maxRecDepth 100000 in
set_option maxHeartbeats 1000000 in
theorem rvalid_any (a : Fr) (w : World) : Calls Tryd.prog 16 #[a.val] w (RetB (.bool (vF a)) w) := by
  have X := (Own.start w).alloc #[.int .i64 a.num, .int .i64 a.den] 24
  have hr := X.r1
  by_cases h1 : 1 ≤ a.den
  case neg =>
    have hv : vF a = false := by simp [vF, inF, h1]
    have d1 : decide (1 ≤ a.den) = false := by simp [h1]
    rw [hv]
    clear hv h1
    go_enter Tryd.func16, Tryd.ntmps16
    go_wp2_with fail
    go_quiet (fail)
    replace X := X.drewN nq
    have hr := X.r1
    go_wp2
    go_ret
    exact ⟨rfl, X.1⟩
  by_cases h2 : a.den ≤ 1073741824
  case neg =>
    have hv : vF a = false := by simp [vF, inF, h2]
    have d1 : decide (1 ≤ a.den) = true := by simp [h1]
    have d2 : decide (a.den ≤ 1073741824) = false := by simp [h2]
    rw [hv]
    clear hv h1 h2
    go_enter Tryd.func16, Tryd.ntmps16
    go_wp2_with fail
    go_quiet (fail)
    replace X := X.drewN nq
    have hr := X.r1
    go_wp2
    go_ret
    exact ⟨rfl, X.1⟩
  by_cases h3 : -1073741824 ≤ a.num
  case neg =>
    have hv : vF a = false := by simp [vF, inF, h3]
    have d1 : decide (1 ≤ a.den) = true := by simp [h1]
    have d2 : decide (a.den ≤ 1073741824) = true := by simp [h2]
    have d3 : decide (-1073741824 ≤ a.num) = false := by simp [h3]
    rw [hv]
    clear hv h1 h2 h3
    go_enter Tryd.func16, Tryd.ntmps16
    go_wp2_with fail
    go_quiet (fail)
    replace X := X.drewN nq
    have hr := X.r1
    go_wp2
    go_ret
    exact ⟨rfl, X.1⟩
  by_cases h4 : a.num ≤ 1073741824
  case neg =>
    have hv : vF a = false := by simp [vF, inF, h4]
    have d1 : decide (1 ≤ a.den) = true := by simp [h1]
    have d2 : decide (a.den ≤ 1073741824) = true := by simp [h2]
    have d3 : decide (-1073741824 ≤ a.num) = true := by simp [h3]
    have d4 : decide (a.num ≤ 1073741824) = false := by simp [h4]
    rw [hv]
    clear hv h1 h2 h3 h4
    go_enter Tryd.func16, Tryd.ntmps16
    go_wp2_with fail
    go_quiet (fail)
    replace X := X.drewN nq
    have hr := X.r1
    go_wp2
    go_ret
    exact ⟨rfl, X.1⟩
  have d1 : decide (1 ≤ a.den) = true := by simp [h1]
  have d2 : decide (a.den ≤ 1073741824) = true := by simp [h2]
  have d3 : decide (-1073741824 ≤ a.num) = true := by simp [h3]
  have d4 : decide (a.num ≤ 1073741824) = true := by simp [h4]
  have hv : vF a = (((gF a.num a.den : Nat) : Int) == 1) := by
    have : (((gF a.num a.den : Nat) : Int) = 1) ↔ gF a.num a.den = 1 := by omega
    have e : (((gF a.num a.den : Nat) : Int) == 1) = decide (((gF a.num a.den : Nat) : Int) = 1) := rfl
    rw [e]
    simp [vF, inF, h1, h2, h3, h4, this]
  have C1 := fun w => size_any a.num w (by omega) (by omega)
  have C2 := fun w => common_any a.num.natAbs a.den.natAbs w (by omega) (by omega)
  have hw : IntKind.u64.wrap a.den = (a.den.natAbs : Int) := by rw [IntKind.wrap_u64]; omega
  change ∀ w, Calls _ _ _ w fun e w' => e = .returned (.int .u64 ((gF a.num a.den : Nat) : Int)) ∧ ∃ m, w' = w.drewN m at C2
  have hv := hide hv
  generalize gF a.num a.den = g at *
  generalize (a.num.natAbs : Int) = N at *
  generalize (a.den.natAbs : Int) = D at *
  clear h1 h2 h3 h4
  go_enter Tryd.func16, Tryd.ntmps16
  go_wp2_with fail
  go_quiet ((first | (go_at_call 43; exact quiet_eq (C1 _)) | (go_at_call 44; first | exact Calls.quiet_of (C2 _) | exact C2 _)))
  replace X := X.drewN nq
  have hr := X.r1
  go_wp2
  go_ret
  exact ⟨ret_bool hv.out.symm, X.1⟩
/-- a fraction and an error -/
def RetFE (s : Fr) (er : Int) (w : World) (e : Ending) (w' : World) : Prop := e = .returned (.tuple #[s.val, .int .i64 er]) ∧ Below w.heap.size w w'
theorem RetFE.mk {s s' : Fr} {er er' : Int} {w w' : World} (hb : Below w.heap.size w w') (h1 : s = s') (h2 : er = er') : RetFE s er w (.returned (.tuple #[s'.val, .int .i64 er'])) w' := by subst h1 h2; exact ⟨rfl, hb⟩
theorem mk_big {n d : Int} {q p : Nat} (hd : d ≠ 0) (e1 : n.natAbs / gF n d = q) (e2 : d.natAbs / gF n d = p) (h : ¬ (q ≤ 1073741824 ∧ p ≤ 1073741824)) : mkF n d = Fr.zero ∧ mkE n d = 5 := by
  have e : mkE n d = 5 := by rw [mkE_eq hd, e1, e2, if_neg h]
  exact ⟨mkF_bad (by rw [e]; decide), e⟩
theorem mk_fits {n d : Int} {q p : Nat} (hd : d ≠ 0) (e1 : n.natAbs / gF n d = q) (e2 : d.natAbs / gF n d = p) (h1 : q ≤ 1073741824) (h2 : p ≤ 1073741824) : mkF n d = ⟨if (n < 0 ↔ d < 0) then (q : Int) else -(q : Int), (p : Int)⟩ ∧ mkE n d = 0 := by
  have e : mkE n d = 0 := by rw [mkE_eq hd, e1, e2, if_pos ⟨h1, h2⟩]
  refine ⟨?_, e⟩
  simp only [mkF, e, if_true, mkN, e1, e2]
set_option maxRecDepth 100000 in
set_option maxHeartbeats 1000000 in
theorem make_any (n d : Int) (w : World) (hn0 : -9223372036854775808 ≤ n) (hn1 : n ≤ 9223372036854775807) (hd0 : -9223372036854775808 ≤ d) (hd1 : d ≤ 9223372036854775807) :
    Calls Tryd.prog 14 #[.int .i64 n, .int .i64 d] w (RetFE (mkF n d) (mkE n d) w) := by
  have X := (Own.start w).alloc #[.int .i64 0, .int .i64 0] 24
  by_cases hd : d = 0
  · subst hd
    have hr := X.r1
    have H := hide (And.intro (mkF_zero n) (mkE_zero n))
    go_enter Tryd.func14, Tryd.ntmps14
    go_wp2
    exact bodyPost_ret (v := .tuple #[Fr.zero.val, .int .i64 16]) (by simp [results, Tryd.results14, hr, Fr.zero, go_sem]) rfl (RetFE.mk (by have HX := X.1; have hz := HX.size; go_grown) H.out.1 H.out.2)
  obtain ⟨g, q, p, eg, hg, eq, ep, hp, hc, e1, e2⟩ := gF_parts (n := n) hd
  have C1 := fun w => size_any n w hn0 hn1
  have C2 := fun w => size_any d w hd0 hd1
  have C3 := fun w => common_any n.natAbs d.natAbs w (by omega) (by omega)
  rw [show Nat.gcd n.natAbs d.natAbs = g from eg] at C3
  have t1 : ((n.natAbs : Nat) : Int).tdiv (g : Int) = (q : Int) := by rw [Int.tdiv_eq_ediv_of_nonneg (by omega), ← Int.natCast_ediv, ← eg, e1]
  have t2 : ((d.natAbs : Nat) : Int).tdiv (g : Int) = (p : Int) := by rw [Int.tdiv_eq_ediv_of_nonneg (by omega), ← Int.natCast_ediv, ← eg, e2]
  have hg0 : (g : Int) ≠ 0 := by omega
  have hq : q ≤ n.natAbs := by rw [eq]; exact Nat.le_mul_of_pos_right q hg
  have hp' : p ≤ d.natAbs := by rw [ep]; exact Nat.le_mul_of_pos_right p hg
  have hq1 : (q : Int) ≤ 9223372036854775808 := by omega
  have hp1 : (p : Int) ≤ 9223372036854775808 := by omega
  by_cases hf : q ≤ 1073741824 ∧ p ≤ 1073741824
  · have H := hide (mk_fits hd e1 e2 hf.1 hf.2)
    obtain ⟨hf1, hf2⟩ := hf
    have k1 : (q : Int) ≤ 1073741824 := by omega
    have k2 : (p : Int) ≤ 1073741824 := by omega
    generalize (n.natAbs : Int) = N at *
    generalize (d.natAbs : Int) = D at *
    clear eg eq ep hc e1 e2 hq hp' hq1 hp1 hf1 hf2 hp
    have c1 : decide (1073741824 < (q : Int)) = false := by simp; omega
    have c2 : decide (1073741824 < (p : Int)) = false := by simp; omega
    rcases Bool.eq_false_or_eq_true (decide (n < 0)) with c3 | c3 <;> rcases Bool.eq_false_or_eq_true (decide (d < 0)) with c4 | c4
    all_goals
      have b3 := c3
      have b4 := c4
      simp only [decide_eq_true_eq, decide_eq_false_iff_not] at b3 b4
      have hs := H.out
      first
      | rw [if_pos (by omega)] at hs
      | rw [if_neg (by omega)] at hs
      replace hs := hide hs
      clear b3 b4 H
      go_enter Tryd.func14, Tryd.ntmps14
      go_wp2_with fail
      refine (C1 _).mono ?_
      rintro e w' ⟨rfl, rfl⟩
      go_wp2_with fail
      refine (C2 _).mono ?_
      rintro e w' ⟨rfl, rfl⟩
      go_wp2_with fail
      refine (C3 _).mono ?_
      rintro e w' ⟨rfl, m, rfl⟩
      replace X := X.drewN m
      generalize World.drewN _ m = W1 at *
      go_wp2_with fail
      go_quiet (fail)
      replace X := X.drewN nq
      generalize World.drewN _ nq = W2 at *
      have hr := X.r1
      go_wp2
    all_goals
      first
      | exact bodyPost_ret (v := .tuple #[(Fr.mk (q : Int) (p : Int)).val, .int .i64 0]) (by simp [results, Tryd.results14, hr, go_sem]) rfl (RetFE.mk (by have HX := X.1; have hz := HX.size; go_grown) hs.out.1 hs.out.2)
      | exact bodyPost_ret (v := .tuple #[(Fr.mk (-(q : Int)) (p : Int)).val, .int .i64 0]) (by simp [results, Tryd.results14, hr, go_sem]) rfl (RetFE.mk (by have HX := X.1; have hz := HX.size; go_grown) hs.out.1 hs.out.2)
  · have H := hide (mk_big hd e1 e2 hf)
    have hf' : 1073741824 < q ∨ (q ≤ 1073741824 ∧ 1073741824 < p) := by omega
    generalize (n.natAbs : Int) = N at *
    generalize (d.natAbs : Int) = D at *
    clear eg eq ep hc e1 e2 hq hp' hf hp
    rcases hf' with hf | ⟨hf, hf'⟩
    all_goals
      go_enter Tryd.func14, Tryd.ntmps14
      go_wp2_with fail
      refine (C1 _).mono ?_
      rintro e w' ⟨rfl, rfl⟩
      go_wp2_with fail
      refine (C2 _).mono ?_
      rintro e w' ⟨rfl, rfl⟩
      go_wp2_with fail
      refine (C3 _).mono ?_
      rintro e w' ⟨rfl, m, rfl⟩
      replace X := X.drewN m
      generalize World.drewN _ m = W1 at *
      go_wp2_with fail
      go_quiet (fail)
      replace X := X.drewN nq
      generalize World.drewN _ nq = W2 at *
      have hr := X.r1
      go_wp2
      exact bodyPost_ret (v := .tuple #[Fr.zero.val, .int .i64 5]) (by simp [results, Tryd.results14, hr, Fr.zero, go_sem]) rfl (RetFE.mk (by have HX := X.1; have hz := HX.size; go_grown) H.out.1 H.out.2)
end Go.Proofs.YtbmckddjdkjplaaDoor
