/- LossesRuns where no argument is wrong: the law returns true. -/
import Derived.Test.YtljaibbmceknfaaRunRef
namespace Go.Proofs.Ytljaibbmceknfaa
open Go.RowKit

theorem zero_holds {c : Cls} (h : rightB c = true) : holdsB c Sto.zero = true := by
  have := of_rightB h
  simp only [holdsB, Sto.zero, Bool.and_eq_true, inB_iff]; omega
theorem zero_valid (c : Cls) : validSt c Sto.zero = rightB c := by
  rw [valid_eq]
  cases h : rightB c
  · rfl
  · rw [zero_holds h]; rfl
theorem runsfn_any (d : Int) (w : World) : Calls Try.prog 27 #[.int .i64 d] w fun e w' => e = .returned (.bool (!(inB d 4194304))) ∧ w = w' := by
  go_enter Try.func27, Try.ntmps27
  go_wp2_with (go_at_call 17; refine (ranges_any _ _ _).mono ?_; rintro e w' ⟨rfl, rfl⟩)
  go_ret
  exact ⟨ret_bool (by simp [rangesB, lenB]), rfl⟩
theorem runs_cases (c : Cls) (s : Sto) (l : List Int) (t : Int) :
    (rightB c = false ∧ runE c s l t = 1 ∧ runE c Sto.zero l t = 1) ∨
    (rightB c = true ∧ 10000 < l.length ∧ runE c Sto.zero l t = 4 ∧ ((holdsB c s = false ∧ runE c s l t = 1) ∨ (holdsB c s = true ∧ runE c s l t = 4))) ∨
    (rightB c = true ∧ l.length ≤ 10000 ∧ lenB t = false ∧ runE c Sto.zero l t = 2 ∧ ((holdsB c s = false ∧ runE c s l t = 1) ∨ (holdsB c s = true ∧ runE c s l t = 2))) ∨
    (rightB c = true ∧ l.length ≤ 10000 ∧ lenB t = true ∧ depB l = false ∧ runE c Sto.zero l t = 2 ∧ ((holdsB c s = false ∧ runE c s l t = 1) ∨ (holdsB c s = true ∧ runE c s l t = 2))) ∨
    (rightB c = true ∧ l.length ≤ 10000 ∧ lenB t = true ∧ depB l = true ∧ runE c Sto.zero l t = 0 ∧ ((holdsB c s = false ∧ runE c s l t = 1) ∨ (holdsB c s = true ∧ runE c s l t = 0))) := by
  unfold runE
  rw [zero_valid, valid_eq]
  by_cases h : l.length ≤ 10000
  · cases rightB c <;> cases holdsB c s <;> cases lenB t <;> cases depB l <;> simp [h]
  · have h' : 10000 < l.length := by omega
    cases rightB c <;> cases holdsB c s <;> cases lenB t <;> cases depB l <;> simp [h, h']
set_option maxRecDepth 100000 in
set_option maxHeartbeats 4000000 in
theorem runs_ok (c : Cls) (s : Sto) (l : List Int) (A : Option Addr) (cap : Nat) (t : Int) (w : World) (hnm : c.nm.size ≤ maxLen) (hl : IntSl w A l) (h1 : smallB c = true) (L1 : l.length ≤ 100)
    (a1 : rightB c = true) (a2 : l.length ≤ 10000) (a3 : lenB t = true) (a4 : depB l = true) (a5 : runE c Sto.zero l t = 0) (a6 : (holdsB c s = false ∧ runE c s l t = 1) ∨ (holdsB c s = true ∧ runE c s l t = 0)) :
    Calls Try.prog 8 #[c.val, s.val, .slice A l.length cap, .int .i64 t] w fun e w' => e = .returned (.bool true) ∧ Below w.heap.size w w' := by
  have hlen : l.length ≤ 9223372036854775807 := by have := hl.1.1; omega
  have HL := hide hl
  clear hl
  have X := ((Own.start w).alloc #[.string c.nm, .int .i64 c.se, .int .i64 c.we, .int .i64 c.ro, .int .i64 c.dr] 23).alloc #[.int .i64 s.wt, .int .i64 s.he] 25
  simp only [World.size_alloc] at X
  go_enter Try.func8, Try.ntmps8
  go_wp2_with fail
  refine (awake_any _).mono ?_
  rintro e w1 ⟨rfl, hb⟩
  replace X := X.to hb
  clear hb
  have hr := X.r2
  go_wp2_with fail
  refine (small_any c _ hnm).mono ?_
  rintro e w2 ⟨rfl, hb⟩
  replace X := X.to hb
  clear hb hr
  have hr := X.r2
  have L3 : l.length ≤ 100 := by omega
  have hany : (l.any fun d => !(inB d 4194304)) = false := by rw [any_depB, a4]; rfl
  have hv0 : validSt c Sto.zero = true := by rw [zero_valid]; exact a1
  obtain ⟨hp, hz⟩ := validSt_iff hv0
  have ht := lenB_iff.1 a3
  have hbd : ∀ i, i < l.length → 0 ≤ 1000 * l.getD i 0 - (runL c t Sto.zero l).getD i 0 ∧ 1000 * l.getD i 0 - (runL c t Sto.zero l).getD i 0 ≤ 4194304000 := fun i hi => lost_at hp (by omega) ht.2 hz a4 i hi
  have hdb : ∀ i, i < l.length → 0 ≤ l.getD i 0 ∧ l.getD i 0 ≤ 4194304 := fun i hi => by have := depB_at a4 i hi; simpa [hi] using this
  have HB := hide hbd
  have HD := hide hdb
  have HLL := hide (runL_length c t l Sto.zero)
  have V := hide (And.intro hp (And.intro hz (And.intro a3 a4)))
  have A6 := hide a6
  clear hbd hdb hp hz hv0 a6
  go_wp2_with fail
  refine (run_any c s l A cap t _ hnm (HL.out.below X.1)).mono ?_
  rintro e w3 ⟨hb, er, S, B, xs, cp, rfl, hxs, hfr, her, hok, hbad⟩
  have HO := hide (And.intro her (And.intro hok hbad))
  replace X := (X.to hb).alloc #[.int .i64 S.wt, .int .i64 S.he] 25
  have HX := hide (hxs.below ((Below.refl w3.heap.size w3).alloc (Nat.le_refl _) (.cells #[.int .i64 S.wt, .int .i64 S.he] 25)))
  clear hb hr hxs her hfr hok hbad
  have hr := X.r3
  go_wp2_with fail
  refine (lost_any c l A cap t _ hnm (HL.out.below X.1)).mono ?_
  rintro e w4 ⟨hb, er2, her2, hok2⟩
  rw [a5] at her2
  subst her2
  obtain ⟨-, rfl⟩ := hok2.resolve_right (by simp)
  replace X := X.to hb
  have HX := hide (HX.out.below hb)
  clear hok2 hb hr
  have hr := X.r3
  go_wp2_with fail
  refine (rval_any c _ hnm).mono ?_
  rintro e w5 ⟨rfl, hb⟩
  replace X := X.to hb
  have HX := hide (HX.out.below hb)
  clear hb hr
  have hr := X.r3
  go_wp2_with fail
  refine (ranges_any 0 t _).mono ?_
  rintro e w' ⟨rfl, rfl⟩
  rw [ranges0]
  go_wp2_with fail
  refine (contI_any 27 (fun d => !(inB d 4194304)) runsfn_any (fun _ _ => rfl) l A cap _ (HL.out.below X.1)).mono ?_
  rintro e w' ⟨rfl, rfl⟩
  have z0 := V.out.1.cut
  have b0 := lostK_bd HB.out l.length (Nat.le_refl _)
  go_wp2_with fail
  refine (rrun_any c Sto.zero l A cap t _ (HL.out.below X.1) V.out.1 V.out.2.1 V.out.2.2.1 V.out.2.2.2 (by omega)).mono ?_
  rintro e w6 ⟨hb, C, cc, rfl, hys, hfc⟩
  replace X := X.to hb
  have HX := hide (HX.out.below hb)
  have HY := hide hys
  clear hb hr hys hfc
  have hr := X.r3
  have hn : Hid ((runL c t Sto.zero l).length = l.length) := HLL
  replace X := X.alloc #[.int .i64 (runS c t Sto.zero l).wt, .int .i64 (runS c t Sto.zero l).he] 25
  have HX := hide (HX.out.below ((Below.refl w6.heap.size w6).alloc (Nat.le_refl _) (.cells #[.int .i64 (runS c t Sto.zero l).wt, .int .i64 (runS c t Sto.zero l).he] 25)))
  have HY := hide (HY.out.below ((Below.refl w6.heap.size w6).alloc (Nat.le_refl _) (.cells #[.int .i64 (runS c t Sto.zero l).wt, .int .i64 (runS c t Sto.zero l).he] 25)))
  clear hr
  go_wp2_with fail
  generalize runL c t Sto.zero l = R at *
  generalize runS c t Sto.zero l = Z at *
  generalize w6.heap.size = b6 at *
  generalize w3.heap.size = b3 at *
  go_loopw [17, 96] (fun v17 v96 wr => ∃ k : Nat, k ≤ l.length ∧ v96 = .int .i64 k ∧ v17 = .int .i64 (lostK l R k) ∧
      Own w wr [(b6, 25, #[.int .i64 Z.wt, .int .i64 Z.he]), (b3, 25, #[.int .i64 S.wt, .int .i64 S.he]), (w.heap.size + 1, 25, #[.int .i64 s.wt, .int .i64 s.he]),
      (w.heap.size, 23, #[.string c.nm, .int .i64 c.se, .int .i64 c.we, .int .i64 c.ro, .int .i64 c.dr])] ∧ IntSl wr B xs ∧ IntSl wr C R) (fun _ v _ => l.length - (intOf v).toNat)
  case atStart => exact ⟨0, Nat.zero_le _, rfl, rfl, X, HX.out, HY.out⟩
  case round =>
    obtain ⟨k, hk, rfl, rfl, Y, hB, hC⟩ := hrel
    have b1 := lostK_bd HB.out k hk
    have hnl := hn.out
    by_cases hlt : k < l.length
    · have hlt' : k < R.length := by rw [HLL.out]; exact hlt
      obtain ⟨b, off, rfl, hbl, hat⟩ := (HL.out.below Y.1).2 (by omega)
      obtain ⟨b', off', rfl, hbl', hat'⟩ := hC.2 (by omega)
      have c0 := getD_cell hat hlt
      have c1 := getD_cell hat' hlt'
      have b2 := HB.out k hlt
      have b3 := HD.out k hlt
      have E : Hid (lostK l R (k + 1) = lostK l R k + (1000 * l.getD k 0 - R.getD k 0)) := rfl
      have HH := hide (And.intro hB hC)
      clear hat hat' hB hC
      generalize l.getD k 0 = x at *
      generalize R.getD k 0 = y at *
      generalize lostK l R k = z at *
      have m1 := IntWalk.wrap64_in (1000 * x) (by omega)
      have m2 := IntWalk.wrap64_in (1000 * x - y) (by omega)
      have m3 := IntWalk.wrap64_in (z + (1000 * x - y)) (by omega)
      have hq := Y.r4
      go_wp2_with fail
      go_quiet (fail)
      go_wp2
      go_roundw
      case rel => exact ⟨k + 1, by omega, by go_num, by rw [E.out], Y.to (below_drewN (Below.refl _ _) _), HH.out.1.below (below_drewN (Below.refl _ _) _), HH.out.2.below (below_drewN (Below.refl _ _) _)⟩
      case measure => simp [intOf]; omega
    · have e : k = l.length := by omega
      subst e
      have hq := Y.r4
      have HC := hide hB
      clear hB hC
      go_wp2_with fail
      refine (rval_any c _ hnm).mono ?_
      rintro e w7 ⟨rfl, hb⟩
      replace Y := Y.to hb
      replace HC := hide (HC.out.below hb)
      clear hb hq
      have hq := Y.r4
      go_wp2_with fail
      refine (holds_any c s _).mono ?_
      rintro e w8 ⟨rfl, hb⟩
      replace Y := Y.to hb
      replace HC := hide (HC.out.below hb)
      clear hb hq
      rcases A6.out with ⟨q1, q2⟩ | ⟨q1, q2⟩
      · have her := HO.out.1.trans q2
        subst her
        obtain ⟨g1, g2⟩ := HO.out.2.2 (by decide)
        subst g1 g2
        have hq := Y.r4
        clear HO A6
        go_wp2
        go_ret
        exact ⟨rfl, Y.1⟩
      · have her := HO.out.1.trans q2
        subst her
        obtain ⟨g1, g2, g3, -⟩ := HO.out.2.1 rfl
        subst g1 g2
        have hhs := hide (validSt_iff g3).2
        have HE := hide (runL_length c t l s)
        have hq := Y.r4
        clear HO A6 g3
        go_wp2_with fail
        refine (rrun_any c s l A cap t _ (HL.out.below Y.1) V.out.1 hhs.out V.out.2.2.1 V.out.2.2.2 (by omega)).mono ?_
        rintro e w9 ⟨hb, D, dc, rfl, hzs, hfd⟩
        replace Y := (Y.to hb).alloc #[.int .i64 (runS c t s l).wt, .int .i64 (runS c t s l).he] 25
        replace HC := hide ((HC.out.below hb).below ((Below.refl w9.heap.size w9).alloc (Nat.le_refl _) (.cells #[.int .i64 (runS c t s l).wt, .int .i64 (runS c t s l).he] 25)))
        have HZ := hide (hzs.below ((Below.refl w9.heap.size w9).alloc (Nat.le_refl _) (.cells #[.int .i64 (runS c t s l).wt, .int .i64 (runS c t s l).he] 25)))
        clear hb hq hzs hfd
        have hq := Y.r5
        generalize runS c t s l = G at *
        generalize runL c t s l = M at *
        generalize w9.heap.size = b9 at *
        go_wp2_with fail
        refine (equalI_any M M B D _ _ _ HC.out HZ.out).mono ?_
        rintro e w' ⟨rfl, hb⟩
        replace Y := Y.to hb
        have he : eqB M M = true := by simp [eqB]
        rw [he]
        clear hb hq
        go_wp2
        go_ret
        exact ⟨rfl, Y.1⟩
end Go.Proofs.Ytljaibbmceknfaa
