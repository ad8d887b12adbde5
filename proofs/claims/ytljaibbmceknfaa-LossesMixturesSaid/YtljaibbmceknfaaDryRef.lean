/- The reference's Dry on a valid class and store: how many steps it takes, or the error; slices.ContainsFunc at classes with a function that makes memory; nothing that was there is turned. -/
import Derived.Test.YtljaibbmceknfaaDry
import Derived.Test.YtljaibbmceknfaaLossRef
import Derived.Test.YtljaibbmceknfaaClsFn
namespace Go.Proofs.Ytljaibbmceknfaa
open Go.RowKit

def RDryPost (c : Cls) (s : Sto) (t : Int) (w : World) (e : Ending) (w' : World) : Prop :=
  Below w.heap.size w w' ∧ ∃ n : Nat, IsDry c t s n ∧ (n : Int) ≤ s.wt + s.he ∧ e = .returned (.tuple #[.int .i64 n, .int .i64 0])
set_option maxHeartbeats 4000000 in
theorem rdry_none (c : Cls) (s : Sto) (t : Int) (w : World) (h1 : 0 < s.he) (h2 : c.dr = 0) :
    Calls Try.prog 34 #[c.val, s.val, .int .i64 t] w fun e w' => e = .returned (.tuple #[.int .i64 0, .int .i64 12]) ∧ Below w.heap.size w w' := by
  have X := ((Own.start w).alloc #[.string c.nm, .int .i64 c.se, .int .i64 c.we, .int .i64 c.ro, .int .i64 c.dr] 23).alloc #[.int .i64 s.wt, .int .i64 s.he] 25
  simp only [World.size_alloc] at X
  have t5 : (c.dr == 0) = true := by simp [h2]
  clear h2
  go_enter Try.func34, Try.ntmps34
  go_wp2
  go_ret2
  exact ⟨rfl, X.1⟩
set_option maxHeartbeats 4000000 in
theorem rdry_any (c : Cls) (s : Sto) (t : Int) (w : World) (hr : RightP c) (hh : HoldsP c s) (ht : 1 ≤ t) (ht' : t ≤ 86400) (h0 : s.he = 0 ∨ 1 ≤ c.dr) :
    Calls Try.prog 34 #[c.val, s.val, .int .i64 t] w (RDryPost c s t w) := by
  have X := ((Own.start w).alloc #[.string c.nm, .int .i64 c.se, .int .i64 c.we, .int .i64 c.ro, .int .i64 c.dr] 23).alloc #[.int .i64 s.wt, .int .i64 s.he] 25
  simp only [World.size_alloc] at X
  have T4 := hide h0
  have HR := hide (And.intro hr hh)
  have hr' := hr
  unfold RightP at hr'
  have hh' := hh
  unfold HoldsP at hh'
  have t7 : (c.dr == 0) = false ∨ ((c.dr == 0) = true ∧ ¬ 0 < s.he) := by
    by_cases a : c.dr = 0
    · exact .inr ⟨by simp [a], by omega⟩
    · exact .inl (by simp [a])
  clear hr hh h0
  rcases t7 with t7 | ⟨t7, t8⟩
  all_goals
    go_enter Try.func34, Try.ntmps34
    go_wp2
    clear t7
    go_loopw [8] (fun v wr => ∃ k : Nat, v = .int .i64 k ∧ Own w wr [(w.heap.size + 1, 25, #[.int .i64 (diter c t k s).wt, .int .i64 (diter c t k s).he]), (w.heap.size, 23, #[.string c.nm, .int .i64 c.se, .int .i64 c.we, .int .i64 c.ro, .int .i64 c.dr])] ∧
        Hid (∀ i, i < k → diter c t i s ≠ Sto.zero) ∧ (k : Int) + ((diter c t k s).wt + (diter c t k s).he) ≤ s.wt + s.he) (fun v _ => (s.wt + s.he).toNat - (intOf v).toNat)
    case atStart => exact ⟨0, rfl, X, hide (fun _ h => by omega), by simp [diter]⟩
    case round =>
      obtain ⟨k, rfl, Y, hno, hbd⟩ := hrel
      have hhk := diter_holds HR.out.1 HR.out.2 (by omega) ht' k
      have hq := Y.r2
      have hhk' := hhk
      unfold HoldsP at hhk'
      by_cases z : diter c t k s = Sto.zero
      · have z2 := (zero_iff _).1 z
        have Z := hide z
        have z3 : ¬ 0 < (diter c t k s).wt := by omega
        have z4 : ¬ 0 < (diter c t k s).he := by omega
        clear z z2
        go_wp2
        go_ret2
        refine ⟨Y.1, k, ⟨Z.out, hno.out⟩, ?_, rfl⟩
        omega
      · have hd0 : (diter c t k s).he = 0 ∨ 1 ≤ c.dr := by
          rcases T4.out with a | a
          · exact .inl (diter_he0 a k)
          · exact .inr a
        have hls := dstep_less HR.out.1 hhk ht ht' hd0 z
        have Z := hide z
        have z5 : 0 < (diter c t k s).wt ∨ (¬ 0 < (diter c t k s).wt ∧ 0 < (diter c t k s).he) := by
          have hne : ¬ ((diter c t k s).wt = 0 ∧ (diter c t k s).he = 0) := fun e => z ((zero_iff _).2 e)
          omega
        have E : Hid ((diter c t (k + 1) s) = dstep c t (diter c t k s)) := rfl
        have HK := hide hhk
        have S0 := step0 (t := t) hhk
        have hst := fun W => rstep_any c (diter c t k s) 0 t W HR.out.1 HK.out (Int.le_refl 0) (by omega) (by omega) ht'
        rw [S0] at hst
        have HST := hide hst
        clear z hd0 hhk S0 hst
        rcases z5 with z5 | ⟨z5, z6⟩
        all_goals
          go_wp2_with fail
          refine (HST.out _).mono ?_
          rintro e w2 ⟨rfl, hb⟩
          have Y1 := Y.to hb
          have Y2 := (((Y1.set0 (by omega) (by simp) 0 (.int .i64 (dstep c t (diter c t k s)).wt)).set0 (by omega) (by simp) 1 (.int .i64 (dstep c t (diter c t k s)).he)).alloc #[.int .i64 (dstep c t (diter c t k s)).wt, .int .i64 (dstep c t (diter c t k s)).he] 25).tail
          have hq2 := Y1.r2
          clear hb hq
          go_wp2
          go_roundw
          case rel =>
            refine ⟨k + 1, by go_num, ?_, hide (fun i hi => ?_), ?_⟩
            · rw [E.out]
              exact Y2
            · by_cases e : i = k
              · subst e; exact Z.out
              · exact hno.out i (by omega)
            · rw [E.out]; omega
          case measure => simp [intOf]; omega

theorem lawfn_any (c : Cls) (w : World) (hnm : c.nm.size ≤ maxLen) : Calls Try.prog 31 #[c.val] w fun e w' => e = .returned (.bool (!(smallB c))) ∧ Below w.heap.size w w' := by
  go_enter Try.func31, Try.ntmps31
  go_wp2_with (go_at_call 11; refine (small_any _ _ hnm).mono ?_; rintro e w' ⟨rfl, hb⟩)
  go_ret
  exact ⟨rfl, (((Own.start w).alloc #[.string c.nm, .int .i64 c.se, .int .i64 c.we, .int .i64 c.ro, .int .i64 c.dr] 23).to hb).1⟩
set_option maxHeartbeats 1000000 in
theorem idxfCB_any (f : Nat) (p : Cls → Bool) (hf : ∀ (d : Cls) (w : World), d.nm.size ≤ maxLen → Calls Try.prog f #[d.val] w fun e w' => e = .returned (.bool (p d)) ∧ Below w.heap.size w w') (hc : ∀ (d : Cls) (w : World), (callFunc f #[d.val]).run Try.prog w = .ok (.enter f #[d.val]) w) (l : List Cls) (A : Option Addr) (cap : Nat) (w : World) (hl : ClsSl w A l) :
    Calls Try.prog 48 #[.slice A l.length cap, .func (.func f) #[] #[]] w fun e w' => e = .returned (.int .i64 (idxC p l)) ∧ Below w.heap.size w w' := by
  have hlen : l.length ≤ 9223372036854775807 := hl.1.1
  have H := hide hl
  have F := hide hf
  clear hl hf
  go_enter Try.func48, Try.ntmps48
  go_wp2
  go_loopw [8] (fun v8 wr => ∃ k : Nat, k ≤ l.length ∧ v8 = .int .i64 k ∧ Below w.heap.size w wr ∧ Hid (∀ i (hi : i < l.length), i < k → p l[i] = false)) (fun v8 _ => l.length - (intOf v8).toNat)
  case atStart => exact ⟨0, Nat.zero_le _, rfl, Below.refl _ _, hide (fun _ _ h => by omega)⟩
  case round =>
    obtain ⟨k, hk, rfl, hb, hno⟩ := hrel
    have HB := hide hb
    by_cases hlt : k < l.length
    · obtain ⟨b, off, rfl, hbl, hat⟩ := (H.out.below hb).2 (by omega)
      obtain ⟨c0, c1, c2, c3, c4⟩ := hat k hlt
      clear hat hb
      by_cases hs : p l[k] = true
      · go_wp2_with fail
        refine (F.out l[k] _ (H.out.1.2 k hlt)).mono ?_
        rintro e w' ⟨rfl, hb⟩
        rw [hs]
        go_wp2
        go_ret
        exact ⟨ret_int (idxC_yes hlt (fun i hi hik => hno.out i hi hik) hs).symm, below_via HB.out HB.out.size hb⟩
      · have hs : p l[k] = false := by simpa using hs
        go_wp2_with fail
        refine (F.out l[k] _ (H.out.1.2 k hlt)).mono ?_
        rintro e w' ⟨rfl, hb⟩
        rw [hs]
        go_wp2
        go_roundw
        case rel =>
          refine ⟨k + 1, by omega, by go_num, below_via HB.out HB.out.size hb, hide fun i hi hik => ?_⟩
          by_cases e : i = k
          · subst e; exact hs
          · exact hno.out i hi (by omega)
        case measure => simp [intOf]; omega
    · clear hb
      go_wp2
      go_ret
      exact ⟨ret_int (idxC_no fun i hi => hno.out i hi (by omega)).symm, HB.out⟩
set_option maxHeartbeats 1000000 in
theorem contCB_any (f : Nat) (p : Cls → Bool) (hf : ∀ (d : Cls) (w : World), d.nm.size ≤ maxLen → Calls Try.prog f #[d.val] w fun e w' => e = .returned (.bool (p d)) ∧ Below w.heap.size w w') (hc : ∀ (d : Cls) (w : World), (callFunc f #[d.val]).run Try.prog w = .ok (.enter f #[d.val]) w) (l : List Cls) (A : Option Addr) (cap : Nat) (w : World) (hl : ClsSl w A l) :
    Calls Try.prog 30 #[.slice A l.length cap, .func (.func f) #[] #[]] w fun e w' => e = .returned (.bool (l.any p)) ∧ Below w.heap.size w w' := by
  have F := hide hf
  have H := hide (any_idxC p l)
  clear hf
  have HL := hide hl
  clear hl
  go_enter Try.func30, Try.ntmps30
  go_wp2_with fail
  refine (idxfCB_any f p F.out hc l A cap _ HL.out).mono ?_
  rintro e w' ⟨rfl, hb⟩
  go_wp2
  go_ret
  exact ⟨ret_bool H.out.symm, hb⟩
def NumOf (c : Cls) (s : Sto) (t : Int) (w : World) (e : Ending) (w' : World) : Prop := ∃ n : Nat, IsDry c t s n ∧ e = .returned (.tuple #[.int .i64 n, .int .i64 0]) ∧ Below w.heap.size w w'
theorem dry_none (c : Cls) (s : Sto) (t : Int) (w : World) (hnm : c.nm.size ≤ maxLen) (h1 : validSt c s = true) (h2 : lenB t = true) (h3 : 0 < s.he) (h4 : c.dr = 0) :
    Calls Try.prog 20 #[c.val, s.val, .int .i64 t] w fun e w' => e = .returned (.tuple #[.int .i64 0, .int .i64 12]) ∧ Below w.heap.size w w' := by
  refine (dry_any c s t w hnm).mono ?_
  rintro e w' ⟨hb, ⟨t1, rfl⟩ | ⟨t1, t2, rfl⟩ | ⟨t1, t2, t3, t4, rfl⟩ | ⟨t1, t2, t3, n, hn, hbd, rfl⟩⟩
  · rw [h1] at t1; cases t1
  · rw [h2] at t2; cases t2
  · exact ⟨rfl, hb⟩
  · omega
theorem dry_num (c : Cls) (s : Sto) (t : Int) (w : World) (hnm : c.nm.size ≤ maxLen) (h1 : validSt c s = true) (h2 : lenB t = true) (h3 : s.he = 0 ∨ 1 ≤ c.dr) :
    Calls Try.prog 20 #[c.val, s.val, .int .i64 t] w (NumOf c s t w) := by
  refine (dry_any c s t w hnm).mono ?_
  rintro e w' ⟨hb, ⟨t1, rfl⟩ | ⟨t1, t2, rfl⟩ | ⟨t1, t2, t3, t4, rfl⟩ | ⟨t1, t2, t3, n, hn, hbd, rfl⟩⟩
  · rw [h1] at t1; cases t1
  · rw [h2] at t2; cases t2
  · omega
  · exact ⟨n, hn, rfl, hb⟩
theorem dry_arg (c : Cls) (s : Sto) (t : Int) (w : World) (hnm : c.nm.size ≤ maxLen) (h1 : validSt c s = false) :
    Calls Try.prog 20 #[c.val, s.val, .int .i64 t] w fun e w' => e = .returned (.tuple #[.int .i64 0, .int .i64 1]) ∧ Below w.heap.size w w' := by
  refine (dry_any c s t w hnm).mono ?_
  rintro e w' ⟨hb, ⟨t1, rfl⟩ | ⟨t1, t2, rfl⟩ | ⟨t1, t2, t3, t4, rfl⟩ | ⟨t1, t2, t3, n, hn, hbd, rfl⟩⟩
  · exact ⟨rfl, hb⟩
  all_goals rw [h1] at t1; cases t1
theorem dry_rng (c : Cls) (s : Sto) (t : Int) (w : World) (hnm : c.nm.size ≤ maxLen) (h1 : validSt c s = true) (h2 : lenB t = false) :
    Calls Try.prog 20 #[c.val, s.val, .int .i64 t] w fun e w' => e = .returned (.tuple #[.int .i64 0, .int .i64 2]) ∧ Below w.heap.size w w' := by
  refine (dry_any c s t w hnm).mono ?_
  rintro e w' ⟨hb, ⟨t1, rfl⟩ | ⟨t1, t2, rfl⟩ | ⟨t1, t2, t3, t4, rfl⟩ | ⟨t1, t2, t3, n, hn, hbd, rfl⟩⟩
  · rw [h1] at t1; cases t1
  · exact ⟨rfl, hb⟩
  all_goals rw [h2] at t2; cases t2
end Go.Proofs.Ytljaibbmceknfaa
