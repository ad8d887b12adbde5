/- LossesBalance: the balance of a run, step by step: for every input the law returns true. -/
import Derived.Test.YtljaibbmceknfaaRun
import Derived.Test.YtljaibbmceknfaaDryPlain
import Derived.Test.YtljaibbmceknfaaLossDries
namespace Go.Proofs.Ytljaibbmceknfaa
open Go.RowKit

theorem runL_at (c : Cls) (t : Int) : ∀ (l : List Int) (s : Sto) (k : Nat) (h : k < (runL c t s l).length), (runL c t s l)[k] = runoff c (runS c t s (l.take k)) (l[k]'(by rw [runL_length] at h; exact h))
  | [], _, k, h => by simp [runL] at h
  | x :: l, s, 0, _ => rfl
  | x :: l, s, k + 1, h => runL_at c t l (stepS c s x t) k (by simpa [runL] using h)
def BalP (c : Cls) (S : Sto) (x n : Int) (F : Sto) (wet held : Int) : Prop :=
  outE c S x n = 0 ∧ outN c S x n = runoff c S x ∧ 0 ≤ runoff c S x ∧ runoff c S x ≤ 1000 * x ∧ outE c F 0 n = 0 ∧ drE c F n = 0 ∧ (outS c F 0 n).he = (outS c S x n).he ∧
    drN c F n = (F.he - (outS c S x n).he) * (1000 - c.se) + (F.wt - (outS c F 0 n).wt) * 1000 ∧ 1000 * x ≤ runoff c S x + 1000 * wet + held * (1000 - c.se) ∧ runoff c S x + 1000 * wet + held * (1000 - c.se) ≤ 1000 * x ∧
    outS c S x n = stepS c S x n
theorem bal_of {c : Cls} {S : Sto} {x n : Int} (hp : RightP c) (hh : HoldsP c S) (hv : validSt c S = true) (h1 : 0 ≤ x) (h2 : x ≤ 4194304) (ht : 1 ≤ n) (ht' : n ≤ 86400) :
    BalP c S x n (rainS c S x) (wetBy c S x) (heldBy c S x) ∧ (0 < x → (outS c S x n).wt = (rainS c S x).wt) ∧ (x = 0 → rainS c S x = S) := by
  have a1 := wetBy_bd hh h1
  have a2 := heldBy_bd hh h1
  have hF : HoldsP c (rainS c S x) := by unfold HoldsP at hh ⊢; simp only [rainS]; omega
  have hvF := validSt_mk hv hF
  have r1 : rangesB x n = true := by simp only [rangesB, Bool.and_eq_true, inB_iff, lenB_iff]; omega
  have r2 : rangesB 0 n = true := by simp only [rangesB, Bool.and_eq_true, inB_iff, lenB_iff]; omega
  obtain ⟨o1, o2, o3⟩ := out_ok hv r1
  obtain ⟨u1, u2, _⟩ := out_ok hvF r2
  have b := runoff_bd hp hh h1 h2
  rw [step0 hF] at u2
  have e1 : (outS c (rainS c S x) 0 n).he = (outS c S x n).he := by rw [u2, o2]; rfl
  refine ⟨⟨o1, o3, b.1, b.2, u1, u1, e1, ?_, ?_, ?_, o2⟩, fun h => ?_, fun h => ?_⟩
  · unfold drN drE; rw [if_pos u1, e1]
  · unfold runoff
    generalize wetBy c S x = p at *
    generalize heldBy c S x = q at *
    have e : (x - p) * c.se + (x - p - q) * (1000 - c.se) = 1000 * (x - p) - q * (1000 - c.se) := by
      rw [Int.sub_mul (x - p) q, Int.mul_sub, Int.mul_sub]
      omega
    omega
  · unfold runoff
    generalize wetBy c S x = p at *
    generalize heldBy c S x = q at *
    have e : (x - p) * c.se + (x - p - q) * (1000 - c.se) = 1000 * (x - p) - q * (1000 - c.se) := by
      rw [Int.sub_mul (x - p) q, Int.mul_sub, Int.mul_sub]
      omega
    omega
  · rw [o2]; simp only [stepS, stepWt, rainS]; rw [if_neg (by omega)]
  · subst h
    have e1 : wetBy c S 0 = 0 := by omega
    have e2 : heldBy c S 0 = 0 := by omega
    simp [rainS, e1, e2]
theorem bal_round {c : Cls} {S : Sto} {x n : Int} (hp : RightP c) (hh : HoldsP c S) (hv : validSt c S = true) (h1 : 0 ≤ x) (h2 : x ≤ 4194304) (ht : 1 ≤ n) (ht' : n ≤ 86400) (hnm : c.nm.size ≤ maxLen) :
    ∃ th uw tw : Int,
      (∀ W : World, Calls Try.prog 12 #[c.val, S.val, .int .i64 x, .int .i64 n] W fun e w' => e = .returned (.tuple #[.agg #[.int .i64 tw, .int .i64 th], .int .i64 (runoff c S x), .int .i64 0]) ∧ Below W.heap.size W w') ∧
      (∀ W : World, Calls Try.prog 13 #[c.val, .agg #[.int .i64 (rainS c S x).wt, .int .i64 (rainS c S x).he], .int .i64 n] W fun e w' =>
        e = .returned (.tuple #[.agg #[.int .i64 uw, .int .i64 th], .int .i64 (((rainS c S x).he - th) * (1000 - c.se) + ((rainS c S x).wt - uw) * 1000), .int .i64 0]) ∧ Below W.heap.size W w') ∧
      (0 ≤ runoff c S x ∧ runoff c S x ≤ 1000 * x ∧ 0 ≤ th ∧ th ≤ (rainS c S x).he ∧ 0 ≤ uw ∧ uw ≤ (rainS c S x).wt ∧ (rainS c S x).he ≤ c.ro ∧ (0 < x → tw = (rainS c S x).wt) ∧ (x = 0 → tw = uw) ∧
        1000 * x ≤ runoff c S x + 1000 * wetBy c S x + heldBy c S x * (1000 - c.se) ∧ runoff c S x + 1000 * wetBy c S x + heldBy c S x * (1000 - c.se) ≤ 1000 * x ∧ stepS c S x n = ⟨tw, th⟩) := by
  obtain ⟨⟨o1, o2, o3, o4, o5, o6, o7, o8, o9, o10, o11⟩, p1, p2⟩ := bal_of hp hh hv h1 h2 ht ht'
  have a1 := wetBy_bd hh h1
  have a2 := heldBy_bd hh h1
  have hF : HoldsP c (rainS c S x) := by unfold HoldsP at hh ⊢; simp only [rainS]; omega
  have bd := step_bd hp hF ht ht'
  have u2 := (out_ok (d := 0) (t := n) (validSt_mk hv hF) (by simp only [rangesB, Bool.and_eq_true, inB_iff, lenB_iff]; omega)).2.1
  rw [← u2] at bd
  refine ⟨(outS c S x n).he, (outS c (rainS c S x) 0 n).wt, (outS c S x n).wt, fun W => ?_, fun W => ?_, o3, o4, ?_, ?_, bd.1, bd.2.1, hF.2.2.2, p1, fun h => ?_, o9, o10, ?_⟩
  · have h := Step_any c S x n W hnm
    rw [o1, o2] at h
    exact h
  · have h := Drained_any c (rainS c S x) n W hnm
    rw [o6, o8] at h
    have e : (outS c (rainS c S x) 0 n).val = .agg #[.int .i64 (outS c (rainS c S x) 0 n).wt, .int .i64 (outS c S x n).he] := by rw [← o7]
    rw [e] at h
    exact h
  · rw [← o7]; exact bd.2.2.1
  · rw [← o7]; exact bd.2.2.2
  · subst h; rw [p2 rfl]
  · rw [← o11]
set_option maxRecDepth 100000 in
set_option maxHeartbeats 4000000 in
theorem balance_any (c : Cls) (s : Sto) (l : List Int) (A : Option Addr) (cap : Nat) (t : Int) (w : World) (hnm : c.nm.size ≤ maxLen) (hl : IntSl w A l) :
    Calls Try.prog 6 #[c.val, s.val, .slice A l.length cap, .int .i64 t] w fun e w' => e = .returned (.bool true) ∧ Below w.heap.size w w' := by
  have hlen : l.length ≤ 9223372036854775807 := by have := hl.1.1; omega
  have HL := hide hl
  clear hl
  have X := ((Own.start w).alloc #[.string c.nm, .int .i64 c.se, .int .i64 c.we, .int .i64 c.ro, .int .i64 c.dr] 23).alloc #[.int .i64 s.wt, .int .i64 s.he] 25
  simp only [World.size_alloc] at X
  by_cases h1 : smallB c = true
  all_goals
    go_enter Try.func6, Try.ntmps6
    go_wp2_with fail
    refine (awake_any _).mono ?_
    rintro e w1 ⟨rfl, hb⟩
    replace X := X.to hb
    clear hb
    have hr := X.r2
    go_wp2_with fail
    refine (small_any c _ hnm).mono ?_
    rintro e w2 ⟨rfl, hb⟩
    replace X := X.to hb
    clear hb hr
    have hr := X.r2
  rotate_left
  · go_wp2
    go_ret
    exact ⟨rfl, X.1⟩
  by_cases h2 : l.length ≤ 60
  rotate_left
  · go_wp2
    go_ret
    exact ⟨rfl, X.1⟩
  go_wp2_with fail
  refine (run_any c s l A cap t _ hnm (HL.out.below X.1)).mono ?_
  rintro e w3 ⟨hb, er, S, B, xs, cp, rfl, hxs, hfr, her, hok, hbad⟩
  have hw2 := X.r2.1.2.2
  have hn3 := (X.to hb).r2.1.2.2
  replace X := (X.to hb).alloc #[.int .i64 S.wt, .int .i64 S.he] 25
  have HX := hide (hxs.below ((Below.refl w3.heap.size w3).alloc (Nat.le_refl _) (.cells #[.int .i64 S.wt, .int .i64 S.he] 25)))
  clear hb hr hxs her
  by_cases h3 : er = 0
  rotate_left
  · obtain ⟨q1, q2⟩ := hbad h3
    subst q1 q2
    have e1 : (er == 0) = false := by simp [h3]
    have e2 : (er != 0) = true := by simp [h3]
    have hr := X.r3
    clear h3 hok hbad
    go_wp2
    go_ret
    exact ⟨rfl, X.1⟩
  obtain ⟨q1, q2, q3, q4, q5, q6⟩ := hok h3
  subst h3 q1 q2
  clear hbad hok
  have hll := runL_length c t l s
  obtain ⟨hp, hh⟩ := validSt_iff q3
  have ht := lenB_iff.1 q4
  have hS := run_holds hp (by omega) ht.2 l s hh (fun x hx => (depB_all q5 x hx).1)
  have hv := validSt_mk q3 hS
  have g1 : (((runL c t s l).length : Int) == (l.length : Int)) = true := by simp [hll]
  have g2 : (((runL c t s l).length : Int) != (l.length : Int)) = false := by simp [hll]
  have V := hide (And.intro hp (And.intro hh (And.intro q3 (And.intro q4 (And.intro q5 hS)))))
  have HLL := hide hll
  have hr := X.r3
  clear hp hh q3 q4 q5 hS hll
  go_wp2_with fail
  refine (validStore_any c _ _ hnm).mono ?_
  rintro e w4 ⟨rfl, hb⟩
  replace X := X.to hb
  have HX := hide (HX.out.below hb)
  clear hb hr
  go_wp2
  generalize w3.heap.size = b3 at *
  go_loopw [65] (fun v wr => ∃ k : Nat, k ≤ l.length ∧ v = .int .i64 k ∧ Own w wr [(b3, 25, #[.int .i64 (runS c t s l).wt, .int .i64 (runS c t s l).he]), (w.heap.size + 1, 25, #[.int .i64 (runS c t s (l.take k)).wt, .int .i64 (runS c t s (l.take k)).he]),
      (w.heap.size, 23, #[.string c.nm, .int .i64 c.se, .int .i64 c.we, .int .i64 c.ro, .int .i64 c.dr])] ∧ IntSl wr B (runL c t s l)) (fun v _ => l.length - (intOf v).toNat)
  case atStart => exact ⟨0, Nat.zero_le _, rfl, by simpa [runS] using X, HX.out⟩
  case round =>
    obtain ⟨k, hk, rfl, Y, hxs⟩ := hrel
    by_cases hlt : k < l.length
    · obtain ⟨b, off, rfl, hbl, hat⟩ := (HL.out.below Y.1).2 (by omega)
      have hlt' : k < (runL c t s l).length := by rw [HLL.out]; exact hlt
      obtain ⟨b', off', rfl, hbl', hat'⟩ := hxs.2 (by omega)
      have c0 := hat k hlt
      have c1 := hat' k hlt'
      have hfb : ∀ a, some (⟨b', off', none⟩ : Addr) = some a → a.block ≠ w.heap.size + 1 := fun a ha => by have := hfr a ha; omega
      rw [runL_at c t l s k hlt'] at c1
      have hd := depB_at V.out.2.2.2.2.1 k hlt
      clear hat hat'
      have eS : Hid (runS c t s (l.take (k + 1)) = stepS c (runS c t s (l.take k)) l[k] t) := by rw [take_snocI l k hlt]; exact runS_snoc c t _ s _
      have hhk := run_take V.out.1 V.out.2.1 (by omega) ht.2 V.out.2.2.2.2.1 (l := l) k
      have g2' : (k : Int) < ((runL c t s l).length : Int) := by omega
      have HXS := hide hxs
      clear hxs
      generalize hS : runS c t s (l.take k) = S at *
      generalize hx : l[k] = x at *
      generalize (runL c t s l).length = nn at *
      generalize runS c t s l = Z at *
      have hq := Y.r3
      clear hS hx
      have hvS := validSt_mk V.out.2.2.1 hhk
      obtain ⟨th, uw, tw, R1, R2, R3⟩ := bal_round V.out.1 hhk hvS hd.1 hd.2 ht.1 ht.2 hnm
      obtain ⟨⟨z1, z2⟩, ⟨z3, z4⟩, ⟨z5, z6⟩, z7, z8⟩ := V.out.1.cut
      obtain ⟨y1, y2, y3, y4⟩ := hhk
      have H1 := hide R1
      have H2 := hide R2
      clear R1 R2 hvS
      have C : x = 0 ∨ (0 < x ∧ x ≤ c.we - S.wt) ∨ (0 < x ∧ c.we - S.wt < x ∧ x - (c.we - S.wt) ≤ c.ro - S.he) ∨ (0 < x ∧ c.we - S.wt < x ∧ c.ro - S.he < x - (c.we - S.wt)) := by omega
      rcases C with C | ⟨C1, C2⟩ | ⟨C1, C2, C3⟩ | ⟨C1, C2, C3⟩
      · subst C
        have e1 : wetBy c S 0 = 0 := by unfold wetBy; omega
        have e2 : heldBy c S 0 = 0 := by unfold heldBy; rw [e1]; omega
        have e3 : rainS c S 0 = S := by unfold rainS; rw [e1, e2]; simp
        rw [e3] at H2 R3
        rw [e1, e2] at R3
        obtain ⟨b1, b2, b3', b4, b5, b6, b7, b8, b9, b10, b11, b12⟩ := R3
        have b9' := b9 rfl
        subst b9'
        have E := hide b12
        obtain ⟨d1, d2⟩ := hd
        have m1 : 0 ≤ (S.he - th) * (1000 - c.se) := Int.mul_nonneg (by omega) (by omega)
        have m2 : (S.he - th) * (1000 - c.se) ≤ 1000000 * 1000 := Int.mul_le_mul (by omega) (by omega) (by omega) (by omega)
        have m3 := IntWalk.wrap64_in ((S.he - th) * (1000 - c.se)) (by omega)
        have m4 := IntWalk.wrap64_in ((S.he - th) * (1000 - c.se) + (S.wt - tw) * 1000) (by omega)
        clear e1 e2 e3 b8 b9 b10 b11 b12
        go_wp2_with fail
        refine (H1.out _).mono ?_
        rintro e w5 ⟨rfl, hb⟩
        have hn1 := (Y.to hb).r3.2.1.2.2
        replace Y := (Y.to hb).alloc #[.int .i64 tw, .int .i64 th] 25
        have k1 := (hb.cell (p := ⟨b', off' + k, none⟩) hbl').trans c1
        have k2 := Nat.lt_of_lt_of_le hbl' hb.size
        have HXS := hide (HXS.out.below hb)
        clear hq hb c0 c1
        have hq := Y.r4
        simp only [World.size_alloc] at hq
        go_wp2_with fail
        replace Y := Y.alloc #[.int .i64 S.wt, .int .i64 S.he] 25
        simp only [World.size_alloc] at Y
        refine (H2.out _).mono ?_
        rintro e w6 ⟨rfl, hb⟩
        replace Y := Y.to hb
        have HXS := hide (HXS.out.below (below_via (by go_grown) (by go_size) hb))
        generalize w5.heap.size = b5 at *
        clear hq hb k1 k2
        have hq := Y.r5
        go_wp2
        go_roundw
        case rel =>
          refine ⟨k + 1, by omega, by go_num, ?_, ?_⟩
          · rw [eS.out, E.out]
            exact (((Y.tail.tail.swap.set0 (by omega) (by simp; omega) 0 (.int .i64 tw)).set0 (by omega) (by simp; omega) 1 (.int .i64 th)).swap.alloc #[.int .i64 tw, .int .i64 th] 25).tail
          · exact ((HXS.out.set (g := w.heap.size + 1) hfb 0 _).set (g := w.heap.size + 1) hfb 1 _).below ((Below.refl _ _).alloc (by simp) _)
        case measure => simp [intOf]; omega
      · have e1 : wetBy c S x = x := by unfold wetBy; omega
        have e2 : heldBy c S x = 0 := by unfold heldBy; rw [e1]; omega
        have e3 : rainS c S x = ⟨S.wt + x, S.he⟩ := by unfold rainS; rw [e1, e2]; simp
        rw [e3] at H2 R3
        rw [e1, e2] at R3
        obtain ⟨b1, b2, b3', b4, b5, b6, b7, b8, b9, b10, b11, b12⟩ := R3
        have b8' := b8 C1
        subst b8'
        have E := hide b12
        obtain ⟨d1, d2⟩ := hd
        simp only [] at b4 b6 b7
        have m1 : 0 ≤ (S.he - th) * (1000 - c.se) := Int.mul_nonneg (by omega) (by omega)
        have m2 : (S.he - th) * (1000 - c.se) ≤ 1000000 * 1000 := Int.mul_le_mul (by omega) (by omega) (by omega) (by omega)
        have m3 := IntWalk.wrap64_in ((S.he - th) * (1000 - c.se)) (by omega)
        have m4 := IntWalk.wrap64_in ((S.he - th) * (1000 - c.se) + (S.wt + x - uw) * 1000) (by omega)
        clear e1 e2 e3 b8 b9 b12
        go_wp2_with fail
        refine (H1.out _).mono ?_
        rintro e w5 ⟨rfl, hb⟩
        have hn1 := (Y.to hb).r3.2.1.2.2
        replace Y := (Y.to hb).alloc #[.int .i64 (S.wt + x), .int .i64 th] 25
        have k1 := (hb.cell (p := ⟨b', off' + k, none⟩) hbl').trans c1
        have k2 := Nat.lt_of_lt_of_le hbl' hb.size
        have HXS := hide (HXS.out.below hb)
        clear hq hb c0 c1
        have hq := Y.r4
        simp only [World.size_alloc] at hq
        go_wp2_with fail
        replace Y := Y.alloc #[.int .i64 (S.wt + x), .int .i64 (S.he)] 25
        simp only [World.size_alloc] at Y
        refine (H2.out _).mono ?_
        rintro e w6 ⟨rfl, hb⟩
        replace Y := Y.to hb
        have HXS := hide (HXS.out.below (below_via (by go_grown) (by go_size) hb))
        generalize w5.heap.size = b5 at *
        clear hq hb k1 k2
        have hq := Y.r5
        go_wp2
        go_roundw
        case rel =>
          refine ⟨k + 1, by omega, by go_num, ?_, ?_⟩
          · rw [eS.out, E.out]
            exact (((Y.tail.tail.swap.set0 (by omega) (by simp; omega) 0 (.int .i64 (S.wt + x))).set0 (by omega) (by simp; omega) 1 (.int .i64 th)).swap.alloc #[.int .i64 uw, .int .i64 th] 25).tail
          · exact ((HXS.out.set (g := w.heap.size + 1) hfb 0 _).set (g := w.heap.size + 1) hfb 1 _).below ((Below.refl _ _).alloc (by simp) _)
        case measure => simp [intOf]; omega
      · have e1 : wetBy c S x = c.we - S.wt := by unfold wetBy; omega
        have e2 : heldBy c S x = x - (c.we - S.wt) := by unfold heldBy; rw [e1]; omega
        have e3 : rainS c S x = ⟨S.wt + (c.we - S.wt), S.he + (x - (c.we - S.wt))⟩ := by unfold rainS; rw [e1, e2]
        rw [e3] at H2 R3
        rw [e1, e2] at R3
        obtain ⟨b1, b2, b3', b4, b5, b6, b7, b8, b9, b10, b11, b12⟩ := R3
        have b8' := b8 C1
        subst b8'
        have E := hide b12
        obtain ⟨d1, d2⟩ := hd
        simp only [] at b4 b6 b7
        have m1 : 0 ≤ (S.he + (x - (c.we - S.wt)) - th) * (1000 - c.se) := Int.mul_nonneg (by omega) (by omega)
        have m2 : (S.he + (x - (c.we - S.wt)) - th) * (1000 - c.se) ≤ 1000000 * 1000 := Int.mul_le_mul (by omega) (by omega) (by omega) (by omega)
        have m3 := IntWalk.wrap64_in ((S.he + (x - (c.we - S.wt)) - th) * (1000 - c.se)) (by omega)
        have m4 := IntWalk.wrap64_in ((S.he + (x - (c.we - S.wt)) - th) * (1000 - c.se) + (S.wt + (c.we - S.wt) - uw) * 1000) (by omega)
        clear e1 e2 e3 b8 b9 b12
        go_wp2_with fail
        refine (H1.out _).mono ?_
        rintro e w5 ⟨rfl, hb⟩
        have hn1 := (Y.to hb).r3.2.1.2.2
        replace Y := (Y.to hb).alloc #[.int .i64 (S.wt + (c.we - S.wt)), .int .i64 th] 25
        have k1 := (hb.cell (p := ⟨b', off' + k, none⟩) hbl').trans c1
        have k2 := Nat.lt_of_lt_of_le hbl' hb.size
        have HXS := hide (HXS.out.below hb)
        clear hq hb c0 c1
        have hq := Y.r4
        simp only [World.size_alloc] at hq
        go_wp2_with fail
        replace Y := Y.alloc #[.int .i64 (S.wt + (c.we - S.wt)), .int .i64 (S.he + (x - (c.we - S.wt)))] 25
        simp only [World.size_alloc] at Y
        refine (H2.out _).mono ?_
        rintro e w6 ⟨rfl, hb⟩
        replace Y := Y.to hb
        have HXS := hide (HXS.out.below (below_via (by go_grown) (by go_size) hb))
        generalize w5.heap.size = b5 at *
        clear hq hb k1 k2
        have hq := Y.r5
        go_wp2
        go_roundw
        case rel =>
          refine ⟨k + 1, by omega, by go_num, ?_, ?_⟩
          · rw [eS.out, E.out]
            exact (((Y.tail.tail.swap.set0 (by omega) (by simp; omega) 0 (.int .i64 (S.wt + (c.we - S.wt)))).set0 (by omega) (by simp; omega) 1 (.int .i64 th)).swap.alloc #[.int .i64 uw, .int .i64 th] 25).tail
          · exact ((HXS.out.set (g := w.heap.size + 1) hfb 0 _).set (g := w.heap.size + 1) hfb 1 _).below ((Below.refl _ _).alloc (by simp) _)
        case measure => simp [intOf]; omega
      · have e1 : wetBy c S x = c.we - S.wt := by unfold wetBy; omega
        have e2 : heldBy c S x = c.ro - S.he := by unfold heldBy; rw [e1]; omega
        have e3 : rainS c S x = ⟨S.wt + (c.we - S.wt), S.he + (c.ro - S.he)⟩ := by unfold rainS; rw [e1, e2]
        rw [e3] at H2 R3
        rw [e1, e2] at R3
        obtain ⟨b1, b2, b3', b4, b5, b6, b7, b8, b9, b10, b11, b12⟩ := R3
        have b8' := b8 C1
        subst b8'
        have E := hide b12
        obtain ⟨d1, d2⟩ := hd
        simp only [] at b4 b6 b7
        have m1 : 0 ≤ (S.he + (c.ro - S.he) - th) * (1000 - c.se) := Int.mul_nonneg (by omega) (by omega)
        have m2 : (S.he + (c.ro - S.he) - th) * (1000 - c.se) ≤ 1000000 * 1000 := Int.mul_le_mul (by omega) (by omega) (by omega) (by omega)
        have m3 := IntWalk.wrap64_in ((S.he + (c.ro - S.he) - th) * (1000 - c.se)) (by omega)
        have m4 := IntWalk.wrap64_in ((S.he + (c.ro - S.he) - th) * (1000 - c.se) + (S.wt + (c.we - S.wt) - uw) * 1000) (by omega)
        clear e1 e2 e3 b8 b9 b12
        go_wp2_with fail
        refine (H1.out _).mono ?_
        rintro e w5 ⟨rfl, hb⟩
        have hn1 := (Y.to hb).r3.2.1.2.2
        replace Y := (Y.to hb).alloc #[.int .i64 (S.wt + (c.we - S.wt)), .int .i64 th] 25
        have k1 := (hb.cell (p := ⟨b', off' + k, none⟩) hbl').trans c1
        have k2 := Nat.lt_of_lt_of_le hbl' hb.size
        have HXS := hide (HXS.out.below hb)
        clear hq hb c0 c1
        have hq := Y.r4
        simp only [World.size_alloc] at hq
        go_wp2_with fail
        replace Y := Y.alloc #[.int .i64 (S.wt + (c.we - S.wt)), .int .i64 (S.he + (c.ro - S.he))] 25
        simp only [World.size_alloc] at Y
        refine (H2.out _).mono ?_
        rintro e w6 ⟨rfl, hb⟩
        replace Y := Y.to hb
        have HXS := hide (HXS.out.below (below_via (by go_grown) (by go_size) hb))
        generalize w5.heap.size = b5 at *
        clear hq hb k1 k2
        have hq := Y.r5
        go_wp2
        go_roundw
        case rel =>
          refine ⟨k + 1, by omega, by go_num, ?_, ?_⟩
          · rw [eS.out, E.out]
            exact (((Y.tail.tail.swap.set0 (by omega) (by simp; omega) 0 (.int .i64 (S.wt + (c.we - S.wt)))).set0 (by omega) (by simp; omega) 1 (.int .i64 th)).swap.alloc #[.int .i64 uw, .int .i64 th] 25).tail
          · exact ((HXS.out.set (g := w.heap.size + 1) hfb 0 _).set (g := w.heap.size + 1) hfb 1 _).below ((Below.refl _ _).alloc (by simp) _)
        case measure => simp [intOf]; omega
    · have e : k = l.length := by omega
      subst e
      rw [List.take_length] at Y
      have hq := Y.r3
      go_wp2
      go_ret
      exact ⟨rfl, Y.1⟩
end Go.Proofs.Ytljaibbmceknfaa
