/- LossesMixtures: Mix and Dry return what is specified: for every input the law returns true. -/
import Derived.Test.YtljaibbmceknfaaMixRef
import Derived.Test.YtljaibbmceknfaaDryRef
import Derived.Test.YtljaibbmceknfaaStoEq
import Derived.Deep.DeepCutAuto
namespace Go.Proofs.Ytljaibbmceknfaa
open Go.RowKit

theorem MixPost.same {l : List Cls} {ar : List Int} {ss : List Sto} {d t : Int} {w w1 w2 w3 : World} {e e' : Ending} (h : MixPost l ar ss d t w e w1) (h' : MixPost l ar ss d t w2 e' w3) :
    ∃ (er vol : Int) (A A' : Option Addr) (xs : List Sto) (cap cap' : Nat), e = .returned (.tuple #[.slice A xs.length cap, .int .i64 vol, .int .i64 er]) ∧ e' = .returned (.tuple #[.slice A' xs.length cap', .int .i64 vol, .int .i64 er]) ∧
      StoSl w1 A xs ∧ StoSl w3 A' xs ∧ Below w.heap.size w w1 ∧ Below w2.heap.size w2 w3 := by
  obtain ⟨hb, er, vol, A, xs, cap, rfl, hx, _, he, h1, h2⟩ := h
  obtain ⟨hb', er', vol', A', xs', cap', rfl, hx', _, he', h1', h2'⟩ := h'
  have e1 : er' = er := by rw [he, he']
  subst e1
  by_cases z : er' = 0
  · obtain ⟨rfl, rfl⟩ := h1 z
    obtain ⟨rfl, rfl⟩ := h1' z
    exact ⟨_, _, _, _, _, _, _, rfl, rfl, hx, hx', hb, hb'⟩
  · obtain ⟨rfl, rfl⟩ := h2 z
    obtain ⟨rfl, rfl⟩ := h2' z
    exact ⟨_, _, _, _, _, _, _, rfl, rfl, hx, hx', hb, hb'⟩
set_option maxRecDepth 100000 in
set_option maxHeartbeats 4000000 in
theorem mixtures_any (l : List Cls) (A : Option Addr) (cap : Nat) (ar : List Int) (A1 : Option Addr) (cap1 : Nat) (ss : List Sto) (A2 : Option Addr) (cap2 : Nat) (d t : Int) (w : World) (hl : ClsSl w A l) (ha : IntSl w A1 ar) (hs : StoSl w A2 ss) :
    Calls Try.prog 9 #[.slice A l.length cap, .slice A1 ar.length cap1, .slice A2 ss.length cap2, .int .i64 d, .int .i64 t] w fun e w' => e = .returned (.bool true) ∧ Below w.heap.size w w' := by
  have hlen : l.length ≤ 9223372036854775807 := hl.1.1
  have hlen1 : ar.length ≤ 9223372036854775807 := ha.1.1
  have hlen2 : ss.length ≤ 9223372036854775807 := hs.1
  have HL := hide hl
  have HA := hide ha
  have HS := hide hs
  clear hl ha hs
  have L : (20 < l.length) ∨ (l.length ≤ 20 ∧ 20 < ar.length) ∨ (l.length ≤ 20 ∧ ar.length ≤ 20 ∧ 20 < ss.length) ∨ (l.length ≤ 20 ∧ ar.length ≤ 20 ∧ ss.length ≤ 20) := by omega
  rcases L with L | ⟨L1, L2⟩ | ⟨L1, L2, L3⟩ | ⟨L1, L2, L3⟩
  · go_enter Try.func9, Try.ntmps9
    go_wp2_with fail
    refine (awake_any _).mono ?_
    rintro e w1 ⟨rfl, hb⟩
    go_wp2
    go_ret
    exact ⟨rfl, hb⟩
  · go_enter Try.func9, Try.ntmps9
    go_wp2_with fail
    refine (awake_any _).mono ?_
    rintro e w1 ⟨rfl, hb⟩
    go_wp2
    go_ret
    exact ⟨rfl, hb⟩
  · go_enter Try.func9, Try.ntmps9
    go_wp2_with fail
    refine (awake_any _).mono ?_
    rintro e w1 ⟨rfl, hb⟩
    go_wp2
    go_ret
    exact ⟨rfl, hb⟩
  have X := Own.start w
  rcases Bool.eq_false_or_eq_true (l.any fun c => !(smallB c)) with a0 | a0
  · go_enter Try.func9, Try.ntmps9
    go_wp2_with fail
    refine (awake_any _).mono ?_
    rintro e w1 ⟨rfl, hb⟩
    replace X := X.to hb
    clear hb
    go_wp2_with fail
    refine (contCB_any 31 (fun c => !(smallB c)) lawfn_any (fun _ _ => rfl) l A cap _ (HL.out.below X.1)).mono ?_
    rintro e w' ⟨rfl, hb⟩
    rw [a0]
    replace X := X.to hb
    clear hb
    go_wp2
    go_ret
    exact ⟨rfl, X.1⟩
  go_enter Try.func9, Try.ntmps9
  go_wp2_with fail
  refine (awake_any _).mono ?_
  rintro e w1 ⟨rfl, hb⟩
  replace X := X.to hb
  clear hb
  go_wp2_with fail
  refine (contCB_any 31 (fun c => !(smallB c)) lawfn_any (fun _ _ => rfl) l A cap _ (HL.out.below X.1)).mono ?_
  rintro e w2 ⟨rfl, hb⟩
  rw [a0]
  replace X := X.to hb
  have HNM := hide a0
  clear hb a0
  go_wp2_with fail
  refine (mix_any l A cap ar A1 cap1 ss A2 cap2 d t _ (HL.out.below X.1) (HA.out.below X.1) (HS.out.below X.1)).mono ?_
  rintro e w3 hm
  have HM := hide hm
  replace X := X.to hm.1
  obtain ⟨hb, er, vol, B, xs, cp, rfl, hrest⟩ := hm
  clear hb hrest
  go_wp2_with fail
  refine (rmix_any l A cap ar A1 cap1 ss A2 cap2 d t _ (HL.out.below X.1) (HA.out.below X.1) (HS.out.below X.1)).mono ?_
  rintro e w4 hm
  have HM2 := hide (HM.out.same hm)
  replace X := X.to hm.1
  have hb := hm.1
  obtain ⟨er', vol', B1, B2, ys, cp1, cp2, e1, rfl, hx, hx', -, -⟩ := HM2.out
  simp only [Ending.returned.injEq, Value.tuple.injEq, Array.mk.injEq, List.cons.injEq, Value.slice.injEq, Value.int.injEq, true_and, and_true] at e1
  obtain ⟨⟨rfl, e2, rfl⟩, rfl, rfl⟩ := e1
  have HX := hide (hx.below hb)
  have HX' := hide hx'
  have E2 := hide e2
  rw [e2]
  clear e2 HM HM2 hm hb hx hx'
  go_wp2_with fail
  refine (equalSto_any ys ys _ _ _ _ _ HX.out HX'.out true (by simp)).mono ?_
  rintro e w' ⟨rfl, nd, rfl⟩
  replace X := X.to (below_drewN (Below.refl _ _) nd)
  generalize World.drewN _ nd = W5 at *
  clear HX HX' E2
  have L4 : l.length = 0 ∨ (¬ l.length = 0 ∧ ss.length = 0) ∨ (0 < l.length ∧ 0 < ss.length) := by omega
  rcases L4 with L4 | ⟨L4, L5⟩ | ⟨L4, L5⟩
  · have q : ((l.length : Int) == 0) = true := beq_iff_eq.2 (by omega)
    clear L4
    go_wp2
    go_ret
    exact ⟨rfl, X.1⟩
  · have q : ((l.length : Int) == 0) = false := beq_eq_false_iff_ne.2 (by omega)
    have q' : ((ss.length : Int) == 0) = true := beq_iff_eq.2 (by omega)
    clear L4 L5
    go_wp2
    go_ret
    exact ⟨rfl, X.1⟩
  have q : ((l.length : Int) == 0) = false := beq_eq_false_iff_ne.2 (by omega)
  have q' : ((ss.length : Int) == 0) = false := beq_eq_false_iff_ne.2 (by omega)
  obtain ⟨b, off, rfl, hbl, hat⟩ := (HL.out.below X.1).2 L4
  obtain ⟨b', off', rfl, hbl', hat'⟩ := (HS.out.below X.1).2 L5
  obtain ⟨c0, c1, c2, c3, c4⟩ := hat 0 L4
  obtain ⟨s0, s1⟩ := hat' 0 L5
  have hnm : (l[0]).nm.size ≤ maxLen := HL.out.1.2 0 L4
  simp only [Nat.zero_mul, Nat.add_zero] at c0 c1 c2 c3 c4 s0 s1
  clear hat hat' HNM
  generalize l[0] = c at *
  generalize ss[0] = s at *
  have HW := hide X.1
  go_wp2_with fail
  go_cut [17, 18] (fun v17 v18 wx => ∃ b17 b18 : Nat, v17 = .pointer (some ⟨b17, 0, none⟩) ∧ v18 = .pointer (some ⟨b18, 0, none⟩) ∧ Own w wx [(b17, 23, #[.string c.nm, .int .i64 c.se, .int .i64 c.we, .int .i64 c.ro, .int .i64 c.dr]), (b18, 25, #[.int .i64 s.wt, .int .i64 s.he])])
  case first =>
    have Y1 := ((X.alloc #[.string c.nm, .int .i64 c.se, .int .i64 c.we, .int .i64 c.ro, .int .i64 c.dr] 23).alloc #[.int .i64 s.wt, .int .i64 s.he] 25).swap.drew
    have Y2 := ((X.alloc #[.int .i64 s.wt, .int .i64 s.he] 25).alloc #[.string c.nm, .int .i64 c.se, .int .i64 c.we, .int .i64 c.ro, .int .i64 c.dr] 23).drew
    simp only [World.size_alloc] at Y1 Y2
    have YY1 := hide Y1
    have YY2 := hide Y2
    clear Y1 Y2 X
    go_region
    · go_wp2_with fail
      go_meet
      exact ⟨_, _, rfl, rfl, YY1.out⟩
    · go_wp2_with fail
      go_meet
      exact ⟨_, _, rfl, rfl, YY2.out⟩
  case rest =>
    clear X c0 c1 c2 c3 c4 s0 s1 HW q q'
    obtain ⟨b1, b2, rfl, rfl, X⟩ := hcut
    have hq := X.r2
    rcases Bool.eq_false_or_eq_true (rightB c) with r1 | r1
    rotate_left
    · have hv : validSt c s = false := by rw [valid_eq, r1]; rfl
      go_wp2_with fail
      refine (rval_any c _ hnm).mono ?_
      rintro e w6 ⟨rfl, hb⟩
      rw [r1]
      replace X := X.to hb
      clear hb hq
      have hq := X.r2
      go_wp2_with fail
      refine (dry_arg c s t _ hnm hv).mono ?_
      rintro e w6 ⟨rfl, hb⟩
      replace X := X.to hb
      clear hb hq
      have hq := X.r2
      go_wp2_with fail
      refine (rval_any c _ hnm).mono ?_
      rintro e w6 ⟨rfl, hb⟩
      rw [r1]
      replace X := X.to hb
      clear hb hq
      have hq := X.r2
      go_wp2
      go_ret
      exact ⟨rfl, X.1⟩
    rcases Bool.eq_false_or_eq_true (holdsB c s) with r2 | r2
    rotate_left
    · have hv : validSt c s = false := by rw [valid_eq, r1, r2]; rfl
      go_wp2_with fail
      refine (rval_any c _ hnm).mono ?_
      rintro e w6 ⟨rfl, hb⟩
      rw [r1]
      replace X := X.to hb
      clear hb hq
      have hq := X.r2
      go_wp2_with fail
      refine (holds_any c s _).mono ?_
      rintro e w6 ⟨rfl, hb⟩
      rw [r2]
      replace X := X.to hb
      clear hb hq
      have hq := X.r2
      go_wp2_with fail
      refine (dry_arg c s t _ hnm hv).mono ?_
      rintro e w6 ⟨rfl, hb⟩
      replace X := X.to hb
      clear hb hq
      have hq := X.r2
      go_wp2_with fail
      refine (rval_any c _ hnm).mono ?_
      rintro e w6 ⟨rfl, hb⟩
      rw [r1]
      replace X := X.to hb
      clear hb hq
      have hq := X.r2
      go_wp2_with fail
      refine (holds_any c s _).mono ?_
      rintro e w6 ⟨rfl, hb⟩
      rw [r2]
      replace X := X.to hb
      clear hb hq
      have hq := X.r2
      go_wp2
      go_ret
      exact ⟨rfl, X.1⟩
    have hv : validSt c s = true := by rw [valid_eq, r1, r2]; rfl
    rcases Bool.eq_false_or_eq_true (lenB t) with r3 | r3
    rotate_left
    · go_wp2_with fail
      refine (rval_any c _ hnm).mono ?_
      rintro e w6 ⟨rfl, hb⟩
      rw [r1]
      replace X := X.to hb
      clear hb hq
      have hq := X.r2
      go_wp2_with fail
      refine (holds_any c s _).mono ?_
      rintro e w6 ⟨rfl, hb⟩
      rw [r2]
      replace X := X.to hb
      clear hb hq
      have hq := X.r2
      go_wp2_with fail
      refine (ranges_any 0 t _).mono ?_
      rintro e w6 ⟨rfl, rfl⟩
      rw [ranges0, r3]
      go_wp2_with fail
      refine (dry_rng c s t _ hnm hv r3).mono ?_
      rintro e w6 ⟨rfl, hb⟩
      replace X := X.to hb
      clear hb hq
      have hq := X.r2
      go_wp2_with fail
      refine (rval_any c _ hnm).mono ?_
      rintro e w6 ⟨rfl, hb⟩
      rw [r1]
      replace X := X.to hb
      clear hb hq
      have hq := X.r2
      go_wp2_with fail
      refine (holds_any c s _).mono ?_
      rintro e w6 ⟨rfl, hb⟩
      rw [r2]
      replace X := X.to hb
      clear hb hq
      have hq := X.r2
      go_wp2_with fail
      refine (ranges_any 0 t _).mono ?_
      rintro e w6 ⟨rfl, rfl⟩
      rw [ranges0, r3]
      go_wp2
      go_ret
      exact ⟨rfl, X.1⟩
    obtain ⟨hp, hh⟩ := validSt_iff hv
    have hlt := lenB_iff.1 r3
    have hp' := hp
    have hh' := hh
    unfold RightP at hp'
    unfold HoldsP at hh'
    have pb : c.dr * t ≤ 1000 * 86400 := Int.mul_le_mul (by omega) (by omega) (by omega) (by omega)
    have pb0 : 0 ≤ c.dr * t := Int.mul_nonneg (by omega) (by omega)
    have T : (0 < s.he ∧ 0 < c.dr ∧ c.dr * t < 72000) ∨ (¬ 0 < s.he ∧ ¬ 0 < c.dr) ∨ (¬ 0 < s.he ∧ 0 < c.dr ∧ ¬ 0 < s.wt) ∨ (¬ 0 < s.he ∧ 0 < c.dr ∧ 0 < s.wt ∧ t < 20) ∨ (¬ 0 < s.he ∧ 0 < c.dr ∧ 0 < s.wt ∧ ¬ t < 20) ∨ (0 < s.he ∧ ¬ 0 < c.dr) ∨
        (0 < s.he ∧ 0 < c.dr ∧ ¬ c.dr * t < 72000 ∧ ¬ 0 < s.wt) ∨ (0 < s.he ∧ 0 < c.dr ∧ ¬ c.dr * t < 72000 ∧ 0 < s.wt ∧ t < 20) ∨ (0 < s.he ∧ 0 < c.dr ∧ ¬ c.dr * t < 72000 ∧ 0 < s.wt ∧ ¬ t < 20) := by omega
    have z := IntWalk.wrap64_in (c.dr * t) (by omega)
    have V := hide (And.intro hp hh)
    clear hp hh
    rcases T with ⟨u1, u2, u3⟩ | ⟨u1, u2⟩ | ⟨u1, u2, u3⟩ | ⟨u1, u2, u3, u4⟩ | ⟨u1, u2, u3, u4⟩ | ⟨u1, u2⟩ | ⟨u1, u2, u3, u4⟩ | ⟨u1, u2, u3, u4, u5⟩ | ⟨u1, u2, u3, u4, u5⟩
    · go_wp2_with fail
      refine (rval_any c _ hnm).mono ?_
      rintro e w6 ⟨rfl, hb⟩
      rw [r1]
      replace X := X.to hb
      clear hb hq
      have hq := X.r2
      go_wp2_with fail
      refine (holds_any c s _).mono ?_
      rintro e w6 ⟨rfl, hb⟩
      rw [r2]
      replace X := X.to hb
      clear hb hq
      have hq := X.r2
      go_wp2_with fail
      refine (ranges_any 0 t _).mono ?_
      rintro e w6 ⟨rfl, rfl⟩
      rw [ranges0, r3]
      go_wp2
      go_ret
      exact ⟨rfl, X.1⟩
    · have T6 : s.he = 0 ∨ 1 ≤ c.dr := by omega
      have H6 := hide T6
      clear T6
      go_wp2_with fail
      refine (rval_any c _ hnm).mono ?_
      rintro e w6 ⟨rfl, hb⟩
      rw [r1]
      replace X := X.to hb
      clear hb hq
      have hq := X.r2
      go_wp2_with fail
      refine (holds_any c s _).mono ?_
      rintro e w6 ⟨rfl, hb⟩
      rw [r2]
      replace X := X.to hb
      clear hb hq
      have hq := X.r2
      go_wp2_with fail
      refine (ranges_any 0 t _).mono ?_
      rintro e w6 ⟨rfl, rfl⟩
      rw [ranges0, r3]
      go_wp2_with fail
      refine (dry_num c s t _ hnm hv r3 H6.out).mono ?_
      rintro e w6 ⟨n, hn, rfl, hb⟩
      have HN := hide hn
      clear hn
      replace X := X.to hb
      clear hb hq
      have hq := X.r2
      go_wp2_with fail
      refine (rval_any c _ hnm).mono ?_
      rintro e w6 ⟨rfl, hb⟩
      rw [r1]
      replace X := X.to hb
      clear hb hq
      have hq := X.r2
      go_wp2_with fail
      refine (holds_any c s _).mono ?_
      rintro e w6 ⟨rfl, hb⟩
      rw [r2]
      replace X := X.to hb
      clear hb hq
      have hq := X.r2
      go_wp2_with fail
      refine (ranges_any 0 t _).mono ?_
      rintro e w6 ⟨rfl, rfl⟩
      rw [ranges0, r3]
      go_wp2_with fail
      refine (rdry_any c s t _ V.out.1 V.out.2 hlt.1 hlt.2 H6.out).mono ?_
      rintro e w6 ⟨hb, m, hm, hbd, rfl⟩
      have em := HN.out.unique hm
      subst em
      clear hm hbd HN
      replace X := X.to hb
      clear hb hq
      have hq := X.r2
      go_wp2
      go_ret
      exact ⟨rfl, X.1⟩
    · have T6 : s.he = 0 ∨ 1 ≤ c.dr := by omega
      have H6 := hide T6
      clear T6
      go_wp2_with fail
      refine (rval_any c _ hnm).mono ?_
      rintro e w6 ⟨rfl, hb⟩
      rw [r1]
      replace X := X.to hb
      clear hb hq
      have hq := X.r2
      go_wp2_with fail
      refine (holds_any c s _).mono ?_
      rintro e w6 ⟨rfl, hb⟩
      rw [r2]
      replace X := X.to hb
      clear hb hq
      have hq := X.r2
      go_wp2_with fail
      refine (ranges_any 0 t _).mono ?_
      rintro e w6 ⟨rfl, rfl⟩
      rw [ranges0, r3]
      go_wp2_with fail
      refine (dry_num c s t _ hnm hv r3 H6.out).mono ?_
      rintro e w6 ⟨n, hn, rfl, hb⟩
      have HN := hide hn
      clear hn
      replace X := X.to hb
      clear hb hq
      have hq := X.r2
      go_wp2_with fail
      refine (rval_any c _ hnm).mono ?_
      rintro e w6 ⟨rfl, hb⟩
      rw [r1]
      replace X := X.to hb
      clear hb hq
      have hq := X.r2
      go_wp2_with fail
      refine (holds_any c s _).mono ?_
      rintro e w6 ⟨rfl, hb⟩
      rw [r2]
      replace X := X.to hb
      clear hb hq
      have hq := X.r2
      go_wp2_with fail
      refine (ranges_any 0 t _).mono ?_
      rintro e w6 ⟨rfl, rfl⟩
      rw [ranges0, r3]
      go_wp2_with fail
      refine (rdry_any c s t _ V.out.1 V.out.2 hlt.1 hlt.2 H6.out).mono ?_
      rintro e w6 ⟨hb, m, hm, hbd, rfl⟩
      have em := HN.out.unique hm
      subst em
      clear hm hbd HN
      replace X := X.to hb
      clear hb hq
      have hq := X.r2
      go_wp2
      go_ret
      exact ⟨rfl, X.1⟩
    · have T6 : s.he = 0 ∨ 1 ≤ c.dr := by omega
      have H6 := hide T6
      clear T6
      go_wp2_with fail
      refine (rval_any c _ hnm).mono ?_
      rintro e w6 ⟨rfl, hb⟩
      rw [r1]
      replace X := X.to hb
      clear hb hq
      have hq := X.r2
      go_wp2_with fail
      refine (holds_any c s _).mono ?_
      rintro e w6 ⟨rfl, hb⟩
      rw [r2]
      replace X := X.to hb
      clear hb hq
      have hq := X.r2
      go_wp2_with fail
      refine (ranges_any 0 t _).mono ?_
      rintro e w6 ⟨rfl, rfl⟩
      rw [ranges0, r3]
      go_wp2_with fail
      refine (dry_num c s t _ hnm hv r3 H6.out).mono ?_
      rintro e w6 ⟨n, hn, rfl, hb⟩
      have HN := hide hn
      clear hn
      replace X := X.to hb
      clear hb hq
      have hq := X.r2
      go_wp2_with fail
      refine (rval_any c _ hnm).mono ?_
      rintro e w6 ⟨rfl, hb⟩
      rw [r1]
      replace X := X.to hb
      clear hb hq
      have hq := X.r2
      go_wp2_with fail
      refine (holds_any c s _).mono ?_
      rintro e w6 ⟨rfl, hb⟩
      rw [r2]
      replace X := X.to hb
      clear hb hq
      have hq := X.r2
      go_wp2_with fail
      refine (ranges_any 0 t _).mono ?_
      rintro e w6 ⟨rfl, rfl⟩
      rw [ranges0, r3]
      go_wp2
      go_ret
      exact ⟨rfl, X.1⟩
    · have T6 : s.he = 0 ∨ 1 ≤ c.dr := by omega
      have H6 := hide T6
      clear T6
      go_wp2_with fail
      refine (rval_any c _ hnm).mono ?_
      rintro e w6 ⟨rfl, hb⟩
      rw [r1]
      replace X := X.to hb
      clear hb hq
      have hq := X.r2
      go_wp2_with fail
      refine (holds_any c s _).mono ?_
      rintro e w6 ⟨rfl, hb⟩
      rw [r2]
      replace X := X.to hb
      clear hb hq
      have hq := X.r2
      go_wp2_with fail
      refine (ranges_any 0 t _).mono ?_
      rintro e w6 ⟨rfl, rfl⟩
      rw [ranges0, r3]
      go_wp2_with fail
      refine (dry_num c s t _ hnm hv r3 H6.out).mono ?_
      rintro e w6 ⟨n, hn, rfl, hb⟩
      have HN := hide hn
      clear hn
      replace X := X.to hb
      clear hb hq
      have hq := X.r2
      go_wp2_with fail
      refine (rval_any c _ hnm).mono ?_
      rintro e w6 ⟨rfl, hb⟩
      rw [r1]
      replace X := X.to hb
      clear hb hq
      have hq := X.r2
      go_wp2_with fail
      refine (holds_any c s _).mono ?_
      rintro e w6 ⟨rfl, hb⟩
      rw [r2]
      replace X := X.to hb
      clear hb hq
      have hq := X.r2
      go_wp2_with fail
      refine (ranges_any 0 t _).mono ?_
      rintro e w6 ⟨rfl, rfl⟩
      rw [ranges0, r3]
      go_wp2_with fail
      refine (rdry_any c s t _ V.out.1 V.out.2 hlt.1 hlt.2 H6.out).mono ?_
      rintro e w6 ⟨hb, m, hm, hbd, rfl⟩
      have em := HN.out.unique hm
      subst em
      clear hm hbd HN
      replace X := X.to hb
      clear hb hq
      have hq := X.r2
      go_wp2
      go_ret
      exact ⟨rfl, X.1⟩
    · have hd0 : c.dr = 0 := by omega
      have HD0 := hide hd0
      clear hd0
      go_wp2_with fail
      refine (rval_any c _ hnm).mono ?_
      rintro e w6 ⟨rfl, hb⟩
      rw [r1]
      replace X := X.to hb
      clear hb hq
      have hq := X.r2
      go_wp2_with fail
      refine (holds_any c s _).mono ?_
      rintro e w6 ⟨rfl, hb⟩
      rw [r2]
      replace X := X.to hb
      clear hb hq
      have hq := X.r2
      go_wp2_with fail
      refine (ranges_any 0 t _).mono ?_
      rintro e w6 ⟨rfl, rfl⟩
      rw [ranges0, r3]
      go_wp2_with fail
      refine (dry_none c s t _ hnm hv r3 u1 HD0.out).mono ?_
      rintro e w6 ⟨rfl, hb⟩
      replace X := X.to hb
      clear hb hq
      have hq := X.r2
      go_wp2_with fail
      refine (rval_any c _ hnm).mono ?_
      rintro e w6 ⟨rfl, hb⟩
      rw [r1]
      replace X := X.to hb
      clear hb hq
      have hq := X.r2
      go_wp2_with fail
      refine (holds_any c s _).mono ?_
      rintro e w6 ⟨rfl, hb⟩
      rw [r2]
      replace X := X.to hb
      clear hb hq
      have hq := X.r2
      go_wp2_with fail
      refine (ranges_any 0 t _).mono ?_
      rintro e w6 ⟨rfl, rfl⟩
      rw [ranges0, r3]
      go_wp2_with fail
      refine (rdry_none c s t _ u1 HD0.out).mono ?_
      rintro e w6 ⟨rfl, hb⟩
      replace X := X.to hb
      clear hb hq
      have hq := X.r2
      go_wp2
      go_ret
      exact ⟨rfl, X.1⟩
    · have T6 : s.he = 0 ∨ 1 ≤ c.dr := by omega
      have H6 := hide T6
      clear T6
      go_wp2_with fail
      refine (rval_any c _ hnm).mono ?_
      rintro e w6 ⟨rfl, hb⟩
      rw [r1]
      replace X := X.to hb
      clear hb hq
      have hq := X.r2
      go_wp2_with fail
      refine (holds_any c s _).mono ?_
      rintro e w6 ⟨rfl, hb⟩
      rw [r2]
      replace X := X.to hb
      clear hb hq
      have hq := X.r2
      go_wp2_with fail
      refine (ranges_any 0 t _).mono ?_
      rintro e w6 ⟨rfl, rfl⟩
      rw [ranges0, r3]
      go_wp2_with fail
      refine (dry_num c s t _ hnm hv r3 H6.out).mono ?_
      rintro e w6 ⟨n, hn, rfl, hb⟩
      have HN := hide hn
      clear hn
      replace X := X.to hb
      clear hb hq
      have hq := X.r2
      go_wp2_with fail
      refine (rval_any c _ hnm).mono ?_
      rintro e w6 ⟨rfl, hb⟩
      rw [r1]
      replace X := X.to hb
      clear hb hq
      have hq := X.r2
      go_wp2_with fail
      refine (holds_any c s _).mono ?_
      rintro e w6 ⟨rfl, hb⟩
      rw [r2]
      replace X := X.to hb
      clear hb hq
      have hq := X.r2
      go_wp2_with fail
      refine (ranges_any 0 t _).mono ?_
      rintro e w6 ⟨rfl, rfl⟩
      rw [ranges0, r3]
      go_wp2_with fail
      refine (rdry_any c s t _ V.out.1 V.out.2 hlt.1 hlt.2 H6.out).mono ?_
      rintro e w6 ⟨hb, m, hm, hbd, rfl⟩
      have em := HN.out.unique hm
      subst em
      clear hm hbd HN
      replace X := X.to hb
      clear hb hq
      have hq := X.r2
      go_wp2
      go_ret
      exact ⟨rfl, X.1⟩
    · have T6 : s.he = 0 ∨ 1 ≤ c.dr := by omega
      have H6 := hide T6
      clear T6
      go_wp2_with fail
      refine (rval_any c _ hnm).mono ?_
      rintro e w6 ⟨rfl, hb⟩
      rw [r1]
      replace X := X.to hb
      clear hb hq
      have hq := X.r2
      go_wp2_with fail
      refine (holds_any c s _).mono ?_
      rintro e w6 ⟨rfl, hb⟩
      rw [r2]
      replace X := X.to hb
      clear hb hq
      have hq := X.r2
      go_wp2_with fail
      refine (ranges_any 0 t _).mono ?_
      rintro e w6 ⟨rfl, rfl⟩
      rw [ranges0, r3]
      go_wp2_with fail
      refine (dry_num c s t _ hnm hv r3 H6.out).mono ?_
      rintro e w6 ⟨n, hn, rfl, hb⟩
      have HN := hide hn
      clear hn
      replace X := X.to hb
      clear hb hq
      have hq := X.r2
      go_wp2_with fail
      refine (rval_any c _ hnm).mono ?_
      rintro e w6 ⟨rfl, hb⟩
      rw [r1]
      replace X := X.to hb
      clear hb hq
      have hq := X.r2
      go_wp2_with fail
      refine (holds_any c s _).mono ?_
      rintro e w6 ⟨rfl, hb⟩
      rw [r2]
      replace X := X.to hb
      clear hb hq
      have hq := X.r2
      go_wp2_with fail
      refine (ranges_any 0 t _).mono ?_
      rintro e w6 ⟨rfl, rfl⟩
      rw [ranges0, r3]
      go_wp2
      go_ret
      exact ⟨rfl, X.1⟩
    · have T6 : s.he = 0 ∨ 1 ≤ c.dr := by omega
      have H6 := hide T6
      clear T6
      go_wp2_with fail
      refine (rval_any c _ hnm).mono ?_
      rintro e w6 ⟨rfl, hb⟩
      rw [r1]
      replace X := X.to hb
      clear hb hq
      have hq := X.r2
      go_wp2_with fail
      refine (holds_any c s _).mono ?_
      rintro e w6 ⟨rfl, hb⟩
      rw [r2]
      replace X := X.to hb
      clear hb hq
      have hq := X.r2
      go_wp2_with fail
      refine (ranges_any 0 t _).mono ?_
      rintro e w6 ⟨rfl, rfl⟩
      rw [ranges0, r3]
      go_wp2_with fail
      refine (dry_num c s t _ hnm hv r3 H6.out).mono ?_
      rintro e w6 ⟨n, hn, rfl, hb⟩
      have HN := hide hn
      clear hn
      replace X := X.to hb
      clear hb hq
      have hq := X.r2
      go_wp2_with fail
      refine (rval_any c _ hnm).mono ?_
      rintro e w6 ⟨rfl, hb⟩
      rw [r1]
      replace X := X.to hb
      clear hb hq
      have hq := X.r2
      go_wp2_with fail
      refine (holds_any c s _).mono ?_
      rintro e w6 ⟨rfl, hb⟩
      rw [r2]
      replace X := X.to hb
      clear hb hq
      have hq := X.r2
      go_wp2_with fail
      refine (ranges_any 0 t _).mono ?_
      rintro e w6 ⟨rfl, rfl⟩
      rw [ranges0, r3]
      go_wp2_with fail
      refine (rdry_any c s t _ V.out.1 V.out.2 hlt.1 hlt.2 H6.out).mono ?_
      rintro e w6 ⟨hb, m, hm, hbd, rfl⟩
      have em := HN.out.unique hm
      subst em
      clear hm hbd HN
      replace X := X.to hb
      clear hb hq
      have hq := X.r2
      go_wp2
      go_ret
      exact ⟨rfl, X.1⟩
end Go.Proofs.Ytljaibbmceknfaa
