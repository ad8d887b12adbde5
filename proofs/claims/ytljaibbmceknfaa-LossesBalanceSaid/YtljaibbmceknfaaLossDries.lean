/- LossesDries: after as many steps without rain as Dry says the store is empty, and not before: for every input the law returns true. -/
import Derived.Test.YtljaibbmceknfaaDry
namespace Go.Proofs.Ytljaibbmceknfaa
open Go.RowKit

theorem validSt_mk {c : Cls} {s s' : Sto} (h : validSt c s = true) (h' : HoldsP c s') : validSt c s' = true := by
  simp only [validSt, Bool.and_eq_true, inB_iff] at h ⊢
  exact ⟨⟨h.1.1, h'.1, h'.2.1⟩, h'.2.2.1, h'.2.2.2⟩
set_option maxRecDepth 100000 in
set_option maxHeartbeats 4000000 in
theorem dries_any (c : Cls) (s : Sto) (t : Int) (w : World) (hnm : c.nm.size ≤ maxLen) :
    Calls Try.prog 5 #[c.val, s.val, .int .i64 t] w fun e w' => e = .returned (.bool true) ∧ Below w.heap.size w w' := by
  have X := ((Own.start w).alloc #[.string c.nm, .int .i64 c.se, .int .i64 c.we, .int .i64 c.ro, .int .i64 c.dr] 23).alloc #[.int .i64 s.wt, .int .i64 s.he] 25
  simp only [World.size_alloc] at X
  by_cases h1 : smallB c = true
  all_goals
    go_enter Try.func5, Try.ntmps5
    go_wp2_with fail
    refine (awake_any _).mono ?_
    rintro e w1 ⟨rfl, hb⟩
    replace X := X.to hb
    clear hb
    have hr := X.r2
    go_wp2_with fail
    refine (small_any c _ hnm).mono ?_
    rintro e w2 ⟨rfl, hb⟩
    replace X := X.to hb
    clear hb hr
    have hr := X.r2
  rotate_left
  · go_wp2
    go_ret
    exact ⟨rfl, X.1⟩
  go_wp2_with fail
  all_goals first | (go_ret; exact ⟨rfl, X.1⟩) | skip
  all_goals
    refine (dry_any c s t _ hnm).mono ?_
    rintro e w3 ⟨hb, ⟨t1, rfl⟩ | ⟨t1, t2, rfl⟩ | ⟨t1, t2, t3, t4, rfl⟩ | ⟨t1, t2, t3, n, hn, hbd, rfl⟩⟩
    all_goals replace X := X.to hb
    all_goals clear hb hr
    all_goals have hr := X.r2
    · go_wp2
      go_ret
      exact ⟨rfl, X.1⟩
    · go_wp2
      go_ret
      exact ⟨rfl, X.1⟩
    · have t5 : (c.dr == 0) = true := by simp [t4]
      clear t4
      go_wp2
      go_ret
      exact ⟨rfl, X.1⟩
    · obtain ⟨hp, hh⟩ := validSt_iff t1
      have hl := lenB_iff.1 t2
      have hp' := hp
      have hh' := hh
      unfold RightP at hp'
      unfold HoldsP at hh'
      have pb : c.dr * t ≤ 1000 * 86400 := Int.mul_le_mul (by omega) (by omega) (by omega) (by omega)
      have pb0 : 0 ≤ c.dr * t := Int.mul_nonneg (by omega) (by omega)
      have z := IntWalk.wrap64_in (c.dr * t) (by omega)
      have T3 : 3000 ≤ t := by omega
      have T6 : s.he = 0 ∨ 360000 ≤ c.dr * t := by
        rcases t3 with a | a
        · exact .inl a
        · by_cases b : c.dr ≤ 0
          · omega
          · exact .inr (by omega)
      have h400 := dry_400 hp hh T3 hl.2 T6 hn
      have V := hide (And.intro hp (And.intro hh (And.intro t1 t2)))
      have Hn := hide hn
      have H3 := hide t3
      clear z T6 hn t1 t2 t3 hp hh pb pb0
      first
        | (exfalso; omega)
        | (
          go_wp2
          clear hr
          go_loopw [84] (fun v wr => ∃ k : Nat, k ≤ n ∧ v = .int .i64 k ∧ Own w wr [(w.heap.size + 1, 25, #[.int .i64 (diter c t k s).wt, .int .i64 (diter c t k s).he]), (w.heap.size, 23, #[.string c.nm, .int .i64 c.se, .int .i64 c.we, .int .i64 c.ro, .int .i64 c.dr])]) (fun v _ => n - (intOf v).toNat)
          case atStart => exact ⟨0, Nat.zero_le _, rfl, X⟩
          case round =>
            obtain ⟨k, hk, rfl, Y⟩ := hrel
            have hhk := diter_holds V.out.1 V.out.2.1 (by omega) hl.2 k
            have hq := Y.r2
            by_cases hlt : k < n
            · have hz := Hn.out.2 k hlt
              have hd0 : (diter c t k s).he = 0 ∨ 1 ≤ c.dr := by
                rcases H3.out with a | a
                · exact .inl (diter_he0 a k)
                · exact .inr a
              have hls := dstep_less V.out.1 hhk hl.1 hl.2 hd0 hz
              have hv := validSt_mk V.out.2.2.1 hhk
              obtain ⟨o1, o2, _⟩ := out_ok (d := 0) (t := t) hv ((ranges0 t).trans V.out.2.2.2)
              rw [step0 hhk] at o2
              have o3 : drE c (diter c t k s) t = 0 := o1
              have E : Hid ((diter c t (k + 1) s) = dstep c t (diter c t k s)) := rfl
              have z5 : ((diter c t k s).wt == 0) = false ∨ (((diter c t k s).wt == 0) = true ∧ ((diter c t k s).he == 0) = false) := by
                have hne : ¬ ((diter c t k s).wt = 0 ∧ (diter c t k s).he = 0) := fun e => hz ((zero_iff _).2 e)
                by_cases a : (diter c t k s).wt = 0
                · exact .inr ⟨by simp [a], by simpa using fun b => hne ⟨a, b⟩⟩
                · exact .inl (by simpa using a)
              clear hz hd0 hv o1 hhk
              rcases z5 with z5 | ⟨z5, z6⟩
              all_goals
                go_wp2_with fail
                refine (Drained_any c (diter c t k s) t _ hnm).mono ?_
                rintro e w4 ⟨rfl, hb⟩
                replace Y := Y.to hb
                clear hb hq
                have hq := Y.r2
                go_wp2
                go_roundw
                case rel =>
                  refine ⟨k + 1, by omega, by go_num, ?_⟩
                  rw [E.out]
                  have Z := ((Y.set0 (by omega) (by simp) 0 (.int .i64 (dstep c t (diter c t k s)).wt)).set0 (by omega) (by simp) 1 (.int .i64 (dstep c t (diter c t k s)).he)).alloc #[.int .i64 (dstep c t (diter c t k s)).wt, .int .i64 (dstep c t (diter c t k s)).he] 25
                  exact Z.tail
                case measure => simp [intOf]; omega
            · have e : k = n := by omega
              subst e
              have z2 := (zero_iff _).1 Hn.out.1
              obtain ⟨z3, z4⟩ := z2
              clear Hn h400
              go_wp2
              go_ret
              exact ⟨rfl, Y.1⟩)
end Go.Proofs.Ytljaibbmceknfaa
