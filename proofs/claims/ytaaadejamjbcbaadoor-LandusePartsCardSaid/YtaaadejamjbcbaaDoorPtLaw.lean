/- LanduseParts: the law returns true for every list; nothing that was there is turned. -/
import Derived.Test.YtaaadejamjbcbaaDoorAwk15
import Derived.Test.YtaaadejamjbcbaaDoorPartsP
namespace Go.Proofs.YtaaadejamjbcbaaDoor
open Go Go.RowKit

set_option maxHeartbeats 400000 in
theorem tooP_any (n : Int) (w : World) : Calls Tryd.prog 13 #[.int .i64 n] w fun e w' => e = .returned (.bool (tooP n)) ∧ w = w' := by
  by_cases h1 : n < 0 <;> by_cases h2 : 1125899906842624 < n
  all_goals
    go_enter Tryd.func13, Tryd.ntmps13
    go_wp2
    go_ret
    refine ⟨ret_bool ?_, rfl⟩
    simp [tooP, h1, h2]
set_option maxRecDepth 100000 in
set_option maxHeartbeats 4000000 in
theorem parts_law (l : List Int) (A : Option Addr) (cap : Nat) (w : World) (hl : IntSl w A l) (ht : TxtW w) : Calls Tryd.prog 4 #[.slice A l.length cap] w (RetV (.bool true) w) := by
  have hlen : l.length ≤ 9223372036854775807 := hl.1.1
  have AW := hide (awake_any w ht)
  have HL := hide hl
  have X := Own.start w
  have M := hide (fun W h => metres_any l A cap W h)
  clear hl ht
  by_cases h50 : 50 < l.length
  · have q1 : decide ((50 : Int) < (l.length : Int)) = true := decide_eq_true (by omega)
    go_enter Tryd.func4, Tryd.ntmps4
    go_wp2_with fail
    refine AW.out.mono ?_
    rintro e w1 ⟨rfl, hb⟩
    go_wp2
    go_ret
    exact ⟨rfl, hb⟩
  have q1 : decide ((50 : Int) < (l.length : Int)) = false := decide_eq_false (by omega)
  by_cases he : meE l = 0
  case neg =>
    have eL : meL l = [] := by unfold meL; rw [if_neg he]
    have CI := hide (fun W h => contI_any 13 tooP tooP_any (fun d w => enters_of Tryd.func13 (by kernel_rfl) rfl _ w) l A cap W h)
    rw [parts_err he (by omega)] at CI
    unfold MePost at M
    rw [eL] at M
    have q2 : (meE l == 0) = false := by simpa using he
    have q3 : (meE l != 0) = true := by simpa using he
    generalize meE l = er at *
    clear eL
    go_enter Tryd.func4, Tryd.ntmps4
    go_wp2_with fail
    refine AW.out.mono ?_
    rintro e w1 ⟨rfl, hb⟩
    replace X := X.to hb
    have HL1 := hide (HL.out.below hb)
    clear hb
    go_wp2_with fail
    refine (M.out _ HL1.out).mono ?_
    rintro e w2 ⟨hb, A1, c1, rfl, _, _⟩
    replace X := X.to hb
    have HL2 := hide (HL1.out.below hb)
    clear hb
    go_wp2_with fail
    refine (CI.out _ HL2.out).mono ?_
    rintro e w3 ⟨rfl, rfl⟩
    go_wp2
    go_ret
    exact ⟨rfl, X.1⟩
  have PF := hide (fun k hk => parts_facts he k hk)
  have PA := hide (parts_all he)
  obtain ⟨_, hw, h0, h1, eL⟩ := me_ok he
  have PS := hide (fun k hk => preS_succ l k hk)
  have hP := hide (preS_all l)
  have TB : Hid (0 ≤ l.sum / 2000000 ∧ l.sum ≤ 1152921504606846976 ∧ 0 ≤ l.sum) := hide ⟨Int.ediv_nonneg h0 (by decide), h1, h0⟩
  unfold MePost at M
  rw [he] at M
  rw [eL] at M
  have LM : ((List.range l.length).map fun i => qK (l.sum / 2000000) l.sum l (i + 1) - qK (l.sum / 2000000) l.sum l i).length = l.length := by simp
  have AT : Hid (∀ k (hk : k < l.length), ((List.range l.length).map fun i => qK (l.sum / 2000000) l.sum l (i + 1) - qK (l.sum / 2000000) l.sum l i)[k]'(by rw [LM]; exact hk) = qK (l.sum / 2000000) l.sum l (k + 1) - qK (l.sum / 2000000) l.sum l k) := hide (fun k hk => by simp)
  clear he hw h0 h1 eL
  generalize hR : ((List.range l.length).map fun i => qK (l.sum / 2000000) l.sum l (i + 1) - qK (l.sum / 2000000) l.sum l i) = R at *
  clear hR
  rw [LM] at M
  have q4 : ((l.length : Int) == (l.length : Int)) = true := by simp
  have q5 : ((l.length : Int) != (l.length : Int)) = false := by simp
  go_enter Tryd.func4, Tryd.ntmps4
  go_wp2_with fail
  refine AW.out.mono ?_
  rintro e w1 ⟨rfl, hb⟩
  replace X := X.to hb
  have HL1 := hide (HL.out.below hb)
  clear hb
  go_wp2_with fail
  refine (M.out _ HL1.out).mono ?_
  rintro e w2 ⟨hb, A1, c1, rfl, hm, _⟩
  replace X := X.to hb
  have HL2 := hide (HL1.out.below hb)
  have HM := hide hm
  have BX := hide X.1
  clear hb hm X HL HL1 M AW
  go_wp2
  go_loop [5, 6, 35] (fun v5 v6 v35 => ∃ k : Nat, k ≤ l.length ∧ v35 = .int .i64 (k : Int) ∧ v5 = .int .i64 (preS l k) ∧ v6 = .int .i64 (qK (l.sum / 2000000) l.sum l k)) (fun _ _ v35 => l.length - (intOf v35).toNat)
  case atStart => exact ⟨0, Nat.zero_le _, rfl, by rw [preS_zero], by rw [qK_zero]⟩
  case round =>
    obtain ⟨k, hk, rfl, rfl, rfl⟩ := hrel
    by_cases hlt : k < l.length
    · obtain ⟨b, off, rfl, hbl, hat⟩ := HL2.out.2 (by omega)
      have c0 := hat k hlt
      obtain ⟨b2, off2, rfl, hbl2, hat2⟩ := HM.out.2 (by omega)
      have c2 := hat2 k (by omega)
      rw [AT.out k hlt] at c2
      obtain ⟨⟨f1, f2⟩, ⟨f3, f4⟩, ⟨f5, f6⟩, f7, f8, f9⟩ := PF.out k hlt
      have eP := hide (PS.out k hlt)
      rw [eP.out] at f3 f4
      have F2 : (l[k] = 0 ∧ qK (l.sum / 2000000) l.sum l (k + 1) = qK (l.sum / 2000000) l.sum l k) ∨ ¬ l[k] = 0 := by
        by_cases h : l[k] = 0
        · have := f2 h; exact .inl ⟨h, by omega⟩
        · exact .inr h
      clear hat hat2 f2
      generalize hq' : qK (l.sum / 2000000) l.sum l (k + 1) = q' at *
      have EQ := hide hq'
      clear hq'
      generalize qK (l.sum / 2000000) l.sum l k = q at *
      generalize preS l k = p at *
      generalize l[k] = x at *
      obtain ⟨m, hm⟩ : ∃ m, m = (p + x) / 2000000 := ⟨_, rfl⟩
      have mb : 0 ≤ m ∧ m ≤ 1152921504606846976 := ⟨by rw [hm]; exact Int.ediv_nonneg (by omega) (by decide), by omega⟩
      have t1 : (p + x).tdiv 2000000 = m := by rw [Int.tdiv_eq_ediv_of_nonneg (by omega), hm]
      have t2 : IntKind.i64.wrap ((p + x).tdiv 2000000) = m := by rw [t1]; exact IntWalk.i64_in _ (by omega)
      rw [← hm] at f3 f4
      obtain ⟨n, hn⟩ : ∃ n, n = q' - q := ⟨_, rfl⟩
      have eN : q + n = q' := by omega
      have s1 := IntWalk.i64_in (p + x) (by omega)
      have s2 : IntKind.i64.wrap (q + n) = q' := by rw [eN]; exact IntWalk.i64_in _ (by omega)
      have s3 := IntWalk.i64_in (m - 1) (by omega)
      rw [← hn] at c2 f1
      have n1 : decide (n < 0) = false := decide_eq_false (by omega)
      have n2 : decide (m < q') = false := decide_eq_false (by omega)
      have n3 : decide (q' < m - 1) = false := decide_eq_false (by omega)
      have F3 : ((x == 0) = true ∧ (n != 0) = false ∧ (n == 0) = true) ∨ (x == 0) = false := by
        rcases F2 with ⟨h, h'⟩ | h
        · exact .inl ⟨by simp [h], by simp; omega, by simp; omega⟩
        · exact .inr (by simp [h])
      have g0 : n < 0 → False := by omega
      have g1 : m < q' → False := by omega
      have g2 : q' < m - 1 → False := by omega
      replace eN := hide eN
      clear hm F2 hn t1
      have G := hide (And.intro mb (And.intro f1 (And.intro f3 (And.intro f4 (And.intro f5 (And.intro f6 (And.intro f7 (And.intro f8 f9))))))))
      clear mb f1 f3 f4 f5 f6 f7 f8 f9 g0 g1 g2
      rcases F3 with ⟨z1, z2, z3⟩ | z1
      all_goals
        go_wp2
        go_round
        case rel => exact ⟨k + 1, by omega, by go_num, by rw [eP.out], by rw [EQ.out]⟩
        case measure => simp [intOf]; omega
    · obtain rfl : k = l.length := by omega
      rw [PA.out, hP.out]
      obtain ⟨t0, t1, t2⟩ := TB.out
      obtain ⟨m, hm⟩ : ∃ m, m = l.sum / 2000000 := ⟨_, rfl⟩
      have e1 : l.sum.tdiv 2000000 = m := by rw [Int.tdiv_eq_ediv_of_nonneg t2, hm]
      have e2 : IntKind.i64.wrap (l.sum.tdiv 2000000) = m := by rw [e1]; exact IntWalk.i64_in _ (by omega)
      rw [← hm] at t0 ⊢
      clear hm e1
      generalize l.sum = S at *
      go_wp2
      go_ret
      exact ⟨by simp, BX.out⟩
end Go.Proofs.YtaaadejamjbcbaaDoor
