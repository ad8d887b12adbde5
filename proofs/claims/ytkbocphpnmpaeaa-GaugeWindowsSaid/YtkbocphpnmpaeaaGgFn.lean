/- The program's instant, Valid, depth and Greatest of records: what each returns; nothing that was there is turned. -/
import Derived.Test.YtkbocphpnmpaeaaGgPlain
import Derived.Test.YtkbocphpnmpaeaaIntFn
namespace Go.Proofs.Ytkbocphpnmpaeaa
open Go.RowKit

set_option maxHeartbeats 400000 in
theorem instant_any (t : Int) (w : World) : Calls Try.prog 34 #[.int .i64 t] w fun e w' => e = .returned (.bool (insB t)) ∧ w = w' := by
  have h : t < -68719476736 ∨ (-68719476736 ≤ t ∧ 68719476736 < t) ∨ (-68719476736 ≤ t ∧ t ≤ 68719476736) := by omega
  rcases h with h | ⟨h1, h2⟩ | ⟨h1, h2⟩
  all_goals
    go_enter Try.func34, Try.ntmps34
    go_wp2
    go_ret
    exact ⟨ret_bool (by unfold insB; simp; omega), rfl⟩
set_option maxHeartbeats 400000 in
theorem gvalid1_any (d : Int) (w : World) : Calls Try.prog 36 #[.int .i64 d] w fun e w' => e = .returned (.bool (decide (d < -1) || decide (4194304 < d))) ∧ w = w' := by
  have h : d < -1 ∨ (-1 ≤ d ∧ 4194304 < d) ∨ (-1 ≤ d ∧ d ≤ 4194304) := by omega
  rcases h with h | ⟨h1, h2⟩ | ⟨h1, h2⟩
  all_goals
    go_enter Try.func36, Try.ntmps36
    go_wp2
    go_ret
    exact ⟨ret_bool (by simp <;> omega), rfl⟩
def BPost (v : Bool) (w : World) (e : Ending) (w' : World) : Prop := e = .returned (.bool v) ∧ Below w.heap.size w w'
theorem BPost.mk {v b : Bool} {w w' : World} (h : v = b) (hb : Below w.heap.size w w') : BPost v w (.returned (.bool b)) w' := by subst h; exact ⟨rfl, hb⟩
set_option maxHeartbeats 2000000 in
theorem gvalid_any (s : Ser) (a : SerA) (w : World) (hs : SerSl w s a) : Calls Try.prog 10 #[s.val a] w (BPost (vS s) w) := by
  have X := (Own.start w).alloc (s.cells a) 24
  have hlen : s.ds.length ≤ 9223372036854775807 := hs.1.1.1
  have IN := hide (fun t W => instant_any t W)
  have hr := X.r1
  have n0 : (0 : Int) ≤ (s.ds.length : Int) := by omega
  have HS := hide hs
  have t : insB s.fr = false ∨ (insB s.fr = true ∧ s.st < 1) ∨ (insB s.fr = true ∧ 1 ≤ s.st ∧ 86400 < s.st) ∨ (insB s.fr = true ∧ 1 ≤ s.st ∧ s.st ≤ 86400 ∧ 10000 < s.ds.length) ∨ (insB s.fr = true ∧ 1 ≤ s.st ∧ s.st ≤ 86400 ∧ s.ds.length ≤ 10000) := by
    cases insB s.fr <;> simp <;> omega
  rcases t with t | ⟨t, t1⟩ | ⟨t, t1, t2⟩ | ⟨t, t1, t2, t3⟩ | ⟨t, t1, t2, t3⟩
  · have V := hide (show vS s = false by simp [vS, t])
    clear hs
    go_enter Try.func10, Try.ntmps10
    go_wp2_with fail
    refine (IN.out _ _).mono ?_
    rintro e w1 ⟨rfl, rfl⟩
    rw [t]
    go_wp2
    go_ret
    exact BPost.mk V.out X.1
  · have V := hide (show vS s = false by unfold vS; rw [show decide (1 ≤ s.st ∧ s.st ≤ 86400) = false from decide_eq_false (by omega)]; simp)
    clear hs
    go_enter Try.func10, Try.ntmps10
    go_wp2_with fail
    refine (IN.out _ _).mono ?_
    rintro e w1 ⟨rfl, rfl⟩
    rw [t]
    go_wp2
    go_ret
    exact BPost.mk V.out X.1
  · have V := hide (show vS s = false by unfold vS; rw [show decide (1 ≤ s.st ∧ s.st ≤ 86400) = false from decide_eq_false (by omega)]; simp)
    clear hs
    go_enter Try.func10, Try.ntmps10
    go_wp2_with fail
    refine (IN.out _ _).mono ?_
    rintro e w1 ⟨rfl, rfl⟩
    rw [t]
    go_wp2
    go_ret
    exact BPost.mk V.out X.1
  · have V := hide (show vS s = false by unfold vS; rw [show decide (s.ds.length ≤ 10000) = false from decide_eq_false (by omega)]; simp)
    have t3' : (10000 : Int) < (s.ds.length : Int) := by omega
    clear hs t3
    go_enter Try.func10, Try.ntmps10
    go_wp2_with fail
    refine (IN.out _ _).mono ?_
    rintro e w1 ⟨rfl, rfl⟩
    rw [t]
    go_wp2
    go_ret
    exact BPost.mk V.out X.1
  · have tf := of_decide_eq_true t
    have b1 : 0 ≤ s.st * (s.ds.length : Int) := Int.mul_nonneg (by omega) n0
    have b2 : s.st * (s.ds.length : Int) ≤ 86400 * 10000 := Int.mul_le_mul t2 (by omega) n0 (by omega)
    have s1 := IntWalk.i64_in (s.st * (s.ds.length : Int)) (by omega)
    have s2 := IntWalk.i64_in (s.fr + s.st * (s.ds.length : Int)) (by omega)
    have V := hide (show vS s = (insB (s.fr + s.st * s.ds.length) && okD s.ds) by unfold vS; rw [t, show decide (1 ≤ s.st ∧ s.st ≤ 86400) = true from decide_eq_true ⟨t1, t2⟩, show decide (s.ds.length ≤ 10000) = true from decide_eq_true t3]; simp)
    have t3' : ¬ (10000 : Int) < (s.ds.length : Int) := by omega
    have OK := hide (okD_any s.ds)
    have C := hide (fun W (h : IntSl W a.A s.ds) => contI_any 36 (fun d => decide (d < -1) || decide (4194304 < d)) (fun d W => gvalid1_any d W) (fun d W => by rfl) s.ds a.A a.c W h)
    clear hs t3 tf b1 b2
    generalize hp : s.st * (s.ds.length : Int) = p at *
    generalize hq : s.fr + p = q at *
    rcases Bool.eq_false_or_eq_true (insB q) with u | u
    · go_enter Try.func10, Try.ntmps10
      go_wp2_with fail
      refine (IN.out _ _).mono ?_
      rintro e w1 ⟨rfl, rfl⟩
      rw [t]
      go_wp2_with fail
      refine (IN.out _ _).mono ?_
      rintro e w1 ⟨rfl, rfl⟩
      rw [u]
      go_wp2_with fail
      refine (C.out _ (HS.out.below X.1).1).mono ?_
      rintro e w1 ⟨rfl, rfl⟩
      go_wp2
      go_ret
      exact BPost.mk (V.out.trans (by rw [u, OK.out]; simp)) X.1
    · go_enter Try.func10, Try.ntmps10
      go_wp2_with fail
      refine (IN.out _ _).mono ?_
      rintro e w1 ⟨rfl, rfl⟩
      rw [t]
      go_wp2_with fail
      refine (IN.out _ _).mono ?_
      rintro e w1 ⟨rfl, rfl⟩
      rw [u]
      go_wp2
      go_ret
      exact BPost.mk (V.out.trans (by rw [u]; rfl)) X.1
set_option maxHeartbeats 400000 in
theorem gdepth_any (d : Int) (w : World) : Calls Try.prog 39 #[.int .i64 d] w fun e w' => e = .returned (.int .i64 (max d 0)) ∧ w = w' := by
  go_enter Try.func39, Try.ntmps39
  go_wp2
  all_goals
    go_ret
    exact ⟨ret_int (by omega), rfl⟩
def GrPost (n f er : Int) (w : World) (e : Ending) (w' : World) : Prop := e = .returned (.tuple #[.int .i64 n, .int .i64 f, .int .i64 er]) ∧ Below w.heap.size w w'
theorem GrPost.mk {n f er n' f' er' : Int} {w w' : World} (h1 : n = n') (h2 : f = f') (h3 : er = er') (hb : Below w.heap.size w w') : GrPost n f er w (.returned (.tuple #[.int .i64 n', .int .i64 f', .int .i64 er'])) w' := by subst h1 h2 h3; exact ⟨rfl, hb⟩
set_option maxRecDepth 100000 in
set_option maxHeartbeats 4000000 in
/-- Greatest of a valid record, for a number of steps within it -/
theorem greatest_in (s : Ser) (a : SerA) (k : Nat) (w : World) (hs : SerSl w s a) (hv : vS s = true) (h1 : 1 ≤ k) (h2 : k ≤ s.ds.length) :
    Calls Try.prog 19 #[s.val a, .int .i64 (k : Int)] w (GrPost (gm s.ds k s.ds.length) (gf s.ds k s.ds.length : Nat) 0 w) := by
  obtain ⟨fr, st, l⟩ := s
  obtain ⟨A, c⟩ := a
  simp only at h2
  have V := hide (fun W (h : SerSl W ⟨fr, st, l⟩ ⟨A, c⟩) => gvalid_any ⟨fr, st, l⟩ ⟨A, c⟩ W h)
  rw [hv] at V
  have v := vS_iff.1 hv
  have le : l.length ≤ 10000 := v.le
  have HV := hide v.ok
  have PB := hide (fun i hi => ps_le (fun i hi => (v.ok i hi).2) i hi)
  clear hv v
  obtain ⟨b, off, rfl, hbl, hat⟩ := hs.1.atg (by show 0 < l.length; omega)
  have HS := hide hs
  have X := (Own.start w).alloc #[.int .i64 fr, .int .i64 st, .slice (some ⟨b, off, none⟩) l.length c] 24
  clear hs
  have hr := X.r1
  have k1 : ¬ ((k : Int) < 1) := by omega
  have k2 : ¬ ((l.length : Int) < (k : Int)) := by omega
  have k3 : decide (l.length < k) = false := decide_eq_false (by omega)
  have k4 : decide ((k : Int) < 1) = false := decide_eq_false (by omega)
  have HAT := hide hat
  clear hat
  show Calls Try.prog 19 #[.agg #[.int .i64 fr, .int .i64 st, .slice (some ⟨b, off, none⟩) l.length c], .int .i64 (k : Int)] w (GrPost (gm l k l.length) (gf l k l.length : Nat) 0 w)
  go_enter Try.func19, Try.ntmps19
  go_wp2_with fail
  refine (V.out _ (HS.out.below X.1)).mono ?_
  rintro e w1 ⟨rfl, hb⟩
  replace X := X.to hb
  have hat := hide (fun i (hi : i < l.length) => (X.1.cell (p := ⟨b, off + i, none⟩) hbl).trans (HAT.out i hi))
  clear hb hr HS V HAT
  have hr := X.r1
  go_wp2
  go_loop [7, 8, 9, 27] (fun v7 v8 v9 v27 => ∃ i : Nat, i ≤ l.length ∧ v27 = .int .i64 (i : Int) ∧ v7 = .int .i64 (sk l k i) ∧ v8 = .int .i64 (gm l k i) ∧ v9 = .int .i64 (gf l k i : Nat)) (fun _ _ _ v27 => l.length - (intOf v27).toNat)
  case atStart => exact ⟨0, by omega, rfl, by simp [sk, ps], rfl, rfl⟩
  case round =>
    obtain ⟨i, hi, rfl, rfl, rfl, rfl⟩ := hrel
    by_cases hlt : i < l.length
    · have c0 := hat.out i hlt
      have st := sk_step l k i
      have v0 := HV.out i hlt
      have p0 := PB.out i (by show i ≤ l.length; omega)
      have p1 := PB.out (i + 1) (by show i + 1 ≤ l.length; omega)
      have sb := sk_bd l k i
      have sb1 := sk_bd l k (i + 1)
      have v0' : l.getD i 0 ≤ 4194304 := v0.2
      obtain ⟨x, hx⟩ : ∃ x, x = max (l.getD i 0) 0 := ⟨_, rfl⟩
      have D1 := hide (fun W => gdepth_any (l.getD i 0) W)
      have HM1 := hide (fun (h : k ≤ i + 1 ∧ gm l k i < sk l k (i + 1)) => (if_pos h : (if k ≤ i + 1 ∧ gm l k i < sk l k (i + 1) then sk l k (i + 1) else gm l k i) = _))
      have HM0 := hide (fun (h : ¬ (k ≤ i + 1 ∧ gm l k i < sk l k (i + 1))) => (if_neg h : (if k ≤ i + 1 ∧ gm l k i < sk l k (i + 1) then sk l k (i + 1) else gm l k i) = _))
      have HF1 := hide (fun (h : k ≤ i + 1 ∧ gm l k i < sk l k (i + 1)) => (if_pos h : (if k ≤ i + 1 ∧ gm l k i < sk l k (i + 1) then i + 1 - k else gf l k i) = _))
      have HF0 := hide (fun (h : ¬ (k ≤ i + 1 ∧ gm l k i < sk l k (i + 1))) => (if_neg h : (if k ≤ i + 1 ∧ gm l k i < sk l k (i + 1) then i + 1 - k else gf l k i) = _))
      have GM : Hid (gm l k (i + 1) = if k ≤ i + 1 ∧ gm l k i < sk l k (i + 1) then sk l k (i + 1) else gm l k i) := hide rfl
      have GF : Hid (gf l k (i + 1) = if k ≤ i + 1 ∧ gm l k i < sk l k (i + 1) then i + 1 - k else gf l k i) := hide rfl
      rw [← hx] at D1 st
      have x0 : 0 ≤ x ∧ x ≤ 4194304 := by rw [hx]; omega
      have kk := IntWalk.i64_in ((k : Int) - 1) (by omega)
      have sb2 : sk l k i ≤ 4194304 * (i : Int) := by omega
      have sb3 : sk l k (i + 1) ≤ 4194304 * (i + 1 : Int) := by omega
      have sb0 := sb.1
      have sb10 := sb1.1
      clear sb sb1 p0 p1 hx v0 v0'
      by_cases hk : k ≤ i
      · rw [if_pos hk] at st
        have c1 := hat.out (i - k) (by omega)
        obtain ⟨y, hy⟩ : ∃ y, y = max (l.getD (i - k) 0) 0 := ⟨_, rfl⟩
        have D2 := hide (fun W => gdepth_any (l.getD (i - k) 0) W)
        rw [← hy] at D2 st
        obtain ⟨t, ht⟩ : ∃ t, t = sk l k i + x := ⟨_, rfl⟩
        have s1 : IntKind.i64.wrap (sk l k i + x) = t := (IntWalk.i64_in _ (by omega)).trans ht.symm
        have s2 : IntKind.i64.wrap (t - y) = sk l k (i + 1) := (IntWalk.i64_in _ (by omega)).trans (by omega)
        have s3 : IntKind.i64.wrap ((i : Int) - (k : Int)) = ((i - k : Nat) : Int) := (IntWalk.i64_in _ (by omega)).trans (by omega)
        have s4 : IntKind.i64.wrap (((i - k : Nat) : Int) + 1) = ((i + 1 - k : Nat) : Int) := (IntWalk.i64_in _ (by omega)).trans (by omega)
        have q1 : (k : Int) ≤ (i : Int) := by omega
        have q2 : (k : Int) - 1 ≤ (i : Int) := by omega
        have q3 : ((i - k : Nat) : Int) < (l.length : Int) := by omega
        have q4 : (0 : Int) ≤ ((i - k : Nat) : Int) := by omega
        have HK := hide hk
        clear hy st ht hk sb2 sb3 sb0 sb10 x0
        generalize l.getD i 0 = d0 at *
        generalize l.getD (i - k) 0 = d1 at *
        generalize hj : i - k = j at *
        generalize hf : i + 1 - k = f at *
        generalize hS : sk l k i = S at *
        generalize hT : sk l k (i + 1) = T at *
        generalize hM : gm l k i = M at *
        generalize hG : gf l k i = G at *
        have HJ := hide (And.intro hj (And.intro hf (And.intro hS (And.intro hT (And.intro hM hG)))))
        clear hj hf hS hT hM hG
        by_cases m : M < T
        · have E1 := hide (GM.out.trans (HM1.out ⟨by have := HK.out; omega, m⟩))
          have E2 := hide (GF.out.trans (HF1.out ⟨by have := HK.out; omega, m⟩))
          clear HM1 HM0 HF1 HF0 GM GF
          go_wp2_with fail
          refine (D1.out _).mono ?_
          rintro e w2 ⟨rfl, rfl⟩
          go_wp2_with fail
          refine (D2.out _).mono ?_
          rintro e w2 ⟨rfl, rfl⟩
          go_wp2
          go_round
          case rel => exact ⟨i + 1, by omega, by go_num, by rw [HJ.out.2.2.2.1], by rw [E1.out], by rw [E2.out]⟩
          case measure => simp [intOf]; omega
        · have E1 := hide (GM.out.trans (HM0.out (fun h => m h.2)))
          have E2 := hide (GF.out.trans (HF0.out (fun h => m h.2)))
          clear HM1 HM0 HF1 HF0 GM GF
          go_wp2_with fail
          refine (D1.out _).mono ?_
          rintro e w2 ⟨rfl, rfl⟩
          go_wp2_with fail
          refine (D2.out _).mono ?_
          rintro e w2 ⟨rfl, rfl⟩
          go_wp2
          go_round
          case rel => exact ⟨i + 1, by omega, by go_num, by rw [HJ.out.2.2.2.1], by rw [E1.out], by rw [E2.out]⟩
          case measure => simp [intOf]; omega
      · rw [if_neg hk] at st
        have s1 : IntKind.i64.wrap (sk l k i + x) = sk l k (i + 1) := (IntWalk.i64_in _ (by omega)).trans (by omega)
        have s3 := IntWalk.i64_in ((i : Int) - (k : Int)) (by omega)
        have q1 : ¬ (k : Int) ≤ (i : Int) := by omega
        have HK := hide hk
        have q5 : i + 1 < k ∨ i + 1 = k := by omega
        clear st hk sb2 sb3 sb0 sb10 x0
        generalize l.getD i 0 = d0 at *
        generalize hf : i + 1 - k = f at *
        generalize hS : sk l k i = S at *
        generalize hT : sk l k (i + 1) = T at *
        generalize hM : gm l k i = M at *
        generalize hG : gf l k i = G at *
        have HJ := hide (And.intro hf (And.intro hS (And.intro hT (And.intro hM hG))))
        clear hf hS hT hM hG
        rcases q5 with q5 | q5
        · have E1 := hide (GM.out.trans (HM0.out (fun h => by omega)))
          have E2 := hide (GF.out.trans (HF0.out (fun h => by omega)))
          have q2 : ¬ ((k : Int) - 1 ≤ (i : Int)) := by omega
          clear HM1 HM0 HF1 HF0 GM GF q5
          go_wp2_with fail
          refine (D1.out _).mono ?_
          rintro e w2 ⟨rfl, rfl⟩
          go_wp2
          go_round
          case rel => exact ⟨i + 1, by omega, by go_num, by rw [HJ.out.2.2.1], by rw [E1.out], by rw [E2.out]⟩
          case measure => simp [intOf]; omega
        · have q2 : (k : Int) - 1 ≤ (i : Int) := by omega
          have s4 : IntKind.i64.wrap ((i : Int) - (k : Int) + 1) = (f : Int) := (IntWalk.i64_in _ (by omega)).trans (by have := HJ.out.1; omega)
          have Q5 := hide q5
          clear q5
          by_cases m : M < T
          · have E1 := hide (GM.out.trans (HM1.out ⟨by have := Q5.out; omega, m⟩))
            have E2 := hide (GF.out.trans (HF1.out ⟨by have := Q5.out; omega, m⟩))
            clear HM1 HM0 HF1 HF0 GM GF
            go_wp2_with fail
            refine (D1.out _).mono ?_
            rintro e w2 ⟨rfl, rfl⟩
            go_wp2
            go_round
            case rel => exact ⟨i + 1, by omega, by go_num, by rw [HJ.out.2.2.1], by rw [E1.out], by rw [E2.out]⟩
            case measure => simp [intOf]; omega
          · have E1 := hide (GM.out.trans (HM0.out (fun h => m h.2)))
            have E2 := hide (GF.out.trans (HF0.out (fun h => m h.2)))
            clear HM1 HM0 HF1 HF0 GM GF
            go_wp2_with fail
            refine (D1.out _).mono ?_
            rintro e w2 ⟨rfl, rfl⟩
            go_wp2
            go_round
            case rel => exact ⟨i + 1, by omega, by go_num, by rw [HJ.out.2.2.1], by rw [E1.out], by rw [E2.out]⟩
            case measure => simp [intOf]; omega
    · have e : i = l.length := by omega
      subst e
      go_wp2
      go_ret3
      exact GrPost.mk rfl rfl rfl X.1
end Go.Proofs.Ytkbocphpnmpaeaa
