/- The program's Dry: how many steps it takes, or the error: for every class, store, and number of seconds; nothing that was there is turned. -/
import Derived.Test.YtljaibbmceknfaaDryPlain
import Derived.Test.YtljaibbmceknfaaLossSteps
namespace Go.Proofs.Ytljaibbmceknfaa
open Go.RowKit

/-- what Dry returns -/
def DryPost (c : Cls) (s : Sto) (t : Int) (w : World) (e : Ending) (w' : World) : Prop :=
  Below w.heap.size w w' ∧
    ((validSt c s = false ∧ e = .returned (.tuple #[.int .i64 0, .int .i64 1])) ∨
     (validSt c s = true ∧ lenB t = false ∧ e = .returned (.tuple #[.int .i64 0, .int .i64 2])) ∨
     (validSt c s = true ∧ lenB t = true ∧ 0 < s.he ∧ c.dr = 0 ∧ e = .returned (.tuple #[.int .i64 0, .int .i64 12])) ∨
     (validSt c s = true ∧ lenB t = true ∧ (s.he = 0 ∨ 1 ≤ c.dr) ∧ ∃ n : Nat, IsDry c t s n ∧ (n : Int) ≤ s.wt + s.he ∧ e = .returned (.tuple #[.int .i64 n, .int .i64 0])))
set_option maxHeartbeats 4000000 in
theorem dry_any (c : Cls) (s : Sto) (t : Int) (w : World) (hnm : c.nm.size ≤ maxLen) :
    Calls Try.prog 20 #[c.val, s.val, .int .i64 t] w (DryPost c s t w) := by
  have X := ((Own.start w).alloc #[.string c.nm, .int .i64 c.se, .int .i64 c.we, .int .i64 c.ro, .int .i64 c.dr] 23).alloc #[.int .i64 s.wt, .int .i64 s.he] 25
  simp only [World.size_alloc] at X
  rcases Bool.eq_false_or_eq_true (validSt c s) with t1 | t1
  rotate_left
  · go_enter Try.func20, Try.ntmps20
    go_wp2_with fail
    refine (validStore_any c s _ hnm).mono ?_
    rintro e w1 ⟨rfl, hb⟩
    replace X := X.to hb
    clear hb
    go_wp2
    go_ret2
    exact ⟨X.1, .inl ⟨t1, rfl⟩⟩
  rcases Bool.eq_false_or_eq_true (lenB t) with t2 | t2
  rotate_left
  · go_enter Try.func20, Try.ntmps20
    go_wp2_with fail
    refine (validStore_any c s _ hnm).mono ?_
    rintro e w1 ⟨rfl, hb⟩
    replace X := X.to hb
    clear hb
    go_wp2_with (go_at_call 37; refine (length_any _ _).mono ?_; rintro e w' ⟨rfl, rfl⟩)
    go_ret2
    exact ⟨X.1, .inr (.inl ⟨t1, t2, rfl⟩)⟩
  have T := hide (And.intro t1 t2)
  obtain ⟨hr, hh⟩ := validSt_iff t1
  have hl := lenB_iff.1 t2
  have hr' := hr
  unfold RightP at hr'
  have hh' := hh
  unfold HoldsP at hh'
  by_cases t3 : 0 < s.he ∧ c.dr = 0
  · obtain ⟨t3, t4⟩ := t3
    have t5 : (c.dr == 0) = true := by simp [t4]
    have T4 := hide t4
    clear t4 hr' hh'
    go_enter Try.func20, Try.ntmps20
    go_wp2_with fail
    refine (validStore_any c s _ hnm).mono ?_
    rintro e w1 ⟨rfl, hb⟩
    replace X := X.to hb
    clear hb
    have hq := X.r2
    go_wp2_with (go_at_call 37; refine (length_any _ _).mono ?_; rintro e w' ⟨rfl, rfl⟩)
    go_ret2
    exact ⟨X.1, .inr (.inr (.inl ⟨T.out.1, T.out.2, t3, T4.out, rfl⟩))⟩
  have t4 : s.he = 0 ∨ 1 ≤ c.dr := by omega
  have T4 := hide t4
  have HR := hide (And.intro hr hh)
  have t5 : s.he ≤ 0 ∨ 0 < s.he := by omega
  have t6 : 0 < s.he → (c.dr == 0) = false := fun h => by simp; omega
  clear t3 t4 hr hh
  rcases t5 with t5 | t5
  all_goals
    have t7 : True ∨ True := .inl trivial
    try replace t7 := t6 t5
    clear t6
    go_enter Try.func20, Try.ntmps20
    go_wp2_with fail
    refine (validStore_any c s _ hnm).mono ?_
    rintro e w1 ⟨rfl, hb⟩
    replace X := X.to hb
    clear hb
    have hq := X.r2
    go_wp2_with (go_at_call 37; refine (length_any _ _).mono ?_; rintro e w' ⟨rfl, rfl⟩)
    clear hq t7
    go_loopw [8] (fun v wr => ∃ k : Nat, v = .int .i64 k ∧ Own w wr [(w.heap.size + 1, 25, #[.int .i64 (diter c t k s).wt, .int .i64 (diter c t k s).he]), (w.heap.size, 23, #[.string c.nm, .int .i64 c.se, .int .i64 c.we, .int .i64 c.ro, .int .i64 c.dr])] ∧
        Hid (∀ i, i < k → diter c t i s ≠ Sto.zero) ∧ (k : Int) + ((diter c t k s).wt + (diter c t k s).he) ≤ s.wt + s.he) (fun v _ => (s.wt + s.he).toNat - (intOf v).toNat)
    case atStart => exact ⟨0, rfl, X, hide (fun _ h => by omega), by simp [diter]⟩
    case round =>
      obtain ⟨k, rfl, Y, hno, hbd⟩ := hrel
      have hhk := diter_holds HR.out.1 HR.out.2 (by omega) hl.2 k
      have hq := Y.r2
      by_cases z : diter c t k s = Sto.zero
      · have z2 := (zero_iff _).1 z
        have Z := hide z
        obtain ⟨z3, z4⟩ := z2
        clear z
        go_wp2
        go_ret2
        refine ⟨Y.1, .inr (.inr (.inr ⟨T.out.1, T.out.2, T4.out, k, ⟨Z.out, hno.out⟩, ?_, rfl⟩))⟩
        omega
      · have hd0 : (diter c t k s).he = 0 ∨ 1 ≤ c.dr := by
          rcases T4.out with a | a
          · exact .inl (diter_he0 a k)
          · exact .inr a
        have hls := dstep_less HR.out.1 hhk hl.1 hl.2 hd0 z
        have Z := hide z
        have hhk' := hhk
        unfold HoldsP at hhk'
        have z5 : ((diter c t k s).wt == 0) = false ∨ (((diter c t k s).wt == 0) = true ∧ ((diter c t k s).he == 0) = false) := by
          have hne : ¬ ((diter c t k s).wt = 0 ∧ (diter c t k s).he = 0) := fun e => z ((zero_iff _).2 e)
          by_cases a : (diter c t k s).wt = 0
          · exact .inr ⟨by simp [a], by simpa using fun b => hne ⟨a, b⟩⟩
          · exact .inl (by simpa using a)
        have E : Hid ((diter c t (k + 1) s) = dstep c t (diter c t k s)) := rfl
        have HK := hide hhk
        clear z hd0 hhk
        rcases z5 with z5 | ⟨z5, z6⟩
        all_goals
          go_wp2_with fail
          refine (drain_dry c _ _ t (w.heap.size + 1) _ HR.out.1 HK.out.1 HK.out.2.1 HK.out.2.2.1 HK.out.2.2.2 (by omega) hl.2 hq.1.2.2 (hq.1.1 0) (hq.1.1 1) (hq.1.2.1 0) (hq.1.2.1 1)).mono ?_
          rintro e w2 ⟨x', y', rfl, hx', hy', hb⟩
          have Y2 := ((Y.set0 (by omega) (by simp) 1 (.int .i64 y')).set0 (by omega) (by simp) 0 (.int .i64 x')).to (hb.mono (by simp [World.setCell]))
          have Hx := hide (And.intro hx' hy')
          clear hx' hy' hb hq
          go_wp2
          go_roundw
          case rel =>
            refine ⟨k + 1, by go_num, ?_, hide (fun i hi => ?_), ?_⟩
            · rw [E.out]
              have e1 : x' = (dstep c t (diter c t k s)).wt := Hx.out.1
              have e2 : y' = (dstep c t (diter c t k s)).he := Hx.out.2
              rw [← e1, ← e2]
              exact Y2
            · by_cases e : i = k
              · subst e; exact Z.out
              · exact hno.out i (by omega)
            · rw [E.out]; omega
          case measure => simp [intOf]; omega
end Go.Proofs.Ytljaibbmceknfaa
