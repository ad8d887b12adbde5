/- Parts of one proof, joined: The reference's Valid of a surface: vM; nothing that was there is turned. The reference's quotients rounded down and up by a number from 1 on (sewershedref04); nothing that was there is turned. The reference's Line, Given, At and Levels (sewershedref14): what each returns; nothing that was there is turned. The reference's Root (sewershedref03), Square and Distance (sewershedref07): what each returns; nothing that was there is turned. Present values, said of integers: later costs less; and a lower or wider trench is greater. -/
import Derived.Test.YtbmocghfpcfmhaaGreatDoorPkCostsTrenches20
import Derived.Test.YtbmocghfpcfmhaaGreatDoorPkCostsTrenches14
import Derived.Test.YtbmocghfpcfmhaaGreatDoorPkCostsTrenches2
import Derived.Test.YtbmocghfpcfmhaaGreatDoorPkCostsTrenches3
import Derived.Test.YtbmocghfpcfmhaaGreatDoorPkCostsTrenches15
import Derived.Test.YtbmocghfpcfmhaaGreatDoorPkCostsTrenches16
import Derived.Test.YtbmocghfpcfmhaaGreatDoorPkCostsTrenches8
import Derived.Test.YtbmocghfpcfmhaaGreatDoorPkCostsTrenches4
import Derived.Deep.Cut
namespace Go.Proofs.YtbmocghfpcfmhaaGreatDoor
open Go Go.RowKit

set_option maxRecDepth 100000 in
set_option maxHeartbeats 1000000 in
theorem mrvalid_any (m : Msh) (a : MshA) (w : World) (hm : MshSl w m a) : Calls Tryz.prog 11 #[m.val a] w (RetW (.bool (vM m)) w) := by
  obtain ⟨ss, fs⟩ := m
  obtain ⟨A1, c1, A2, c2⟩ := a
  have X := (Own.start w).alloc #[.slice A1 ss.length c1, .slice A2 fs.length c2] 25
  have hr := X.r1
  have HM := hide hm
  have SM := hide (fun W => mrsmall_any ⟨ss, fs⟩ ⟨A1, c1, A2, c2⟩ W)
  unfold RetW at SM
  show Calls _ _ #[.agg #[.slice A1 ss.length c1, .slice A2 fs.length c2]] w _
  cases h : smB ⟨ss, fs⟩ with
  | false =>
    rw [h] at SM
    rw [big_vM h]
    clear h hm
    go_enter Tryz.func11, Tryz.ntmps11
    go_wp2_with fail
    refine (SM.out _).mono ?_
    rintro e w1 ⟨rfl, hb⟩
    replace X := X.to hb
    clear hr hb
    have XB := X.1
    go_wp2
    go_ret
    exact ⟨rfl, XB⟩
  | true =>
    have hs : ss.length ≤ 2000 ∧ fs.length ≤ 4000 := by simpa [smB] using h
    have CK := hide (fun W hW => mrcheck_any ss fs A1 A2 c1 c2 W hW hs.1 hs.2)
    rw [h] at SM
    clear h hm hs
    go_enter Tryz.func11, Tryz.ntmps11
    go_wp2_with fail
    refine (SM.out _).mono ?_
    rintro e w1 ⟨rfl, hb⟩
    replace X := X.to hb
    clear hr hb
    have hr := X.r1
    go_wp2_with fail
    refine (CK.out _ (HM.out.below X.1)).mono ?_
    rintro e w1 ⟨⟨A, N, c, rfl, hN⟩, hb⟩
    replace X := X.to hb
    clear hr hb CK HM
    have XB := X.1
    by_cases h0 : N = 0
    · have hv := hide (hN.1 h0)
      subst h0
      clear hN
      go_wp2
      go_ret
      exact ⟨ret_bool hv.out.symm, XB⟩
    · have hv : Hid (vM ⟨ss, fs⟩ = false) := hide (by
        cases e : vM ⟨ss, fs⟩ with
        | true => exact absurd (hN.2 e) h0
        | false => rfl)
      have q : ((N : Int) == 0) = false := beq_eq_false_iff_ne.2 (by omega)
      clear hN h0
      go_wp2
      go_ret
      exact ⟨ret_bool hv.out.symm, XB⟩
end Go.Proofs.YtbmocghfpcfmhaaGreatDoor

namespace Go.Proofs.YtbmocghfpcfmhaaGreatDoor
open Go Go.RowKit

theorem floor4_of {n d q : Int} (hd : 1 ≤ d) (hq : q = n.tdiv d) : (n < q * d → n / d = q - 1) ∧ (¬ n < q * d → n / d = q) ∧ -d < n - q * d ∧ n - q * d < d := by
  have e := Int.mul_tdiv_add_tmod n d
  have r1 : n.tmod d < d := Int.tmod_lt_of_pos n (by omega)
  have r2 : -d < n.tmod d := by
    rcases Int.lt_or_le n 0 with h | h
    · have h3 := Int.tmod_lt_of_pos (-n) (show 0 < d by omega)
      rw [Int.neg_tmod] at h3
      omega
    · have := Int.tmod_nonneg d h
      omega
  rw [← hq, Int.mul_comm] at e
  have key : ∀ r p : Int, r + d * p = n → 0 ≤ r → r < d → n / d = p := fun r p h1 h2 h3 => ((Int.ediv_emod_unique (by omega)).2 ⟨h1, h2, h3⟩).1
  have c : d * q = q * d := Int.mul_comm _ _
  refine ⟨fun h => key (n - q * d + d) (q - 1) ?_ (by omega) (by omega), fun h => key (n - q * d) q (by omega) (by omega) (by omega), by omega, by omega⟩
  rw [Int.mul_sub, Int.mul_one]
  omega
theorem ediv_rng {n d b : Int} (hd : 1 ≤ d) (h : -b ≤ n ∧ n ≤ b) (hb : 0 ≤ b) : -b ≤ n / d ∧ n / d ≤ b := by
  constructor
  · rcases Int.lt_or_le n 0 with k | k
    · refine (Int.le_ediv_iff_mul_le (by omega)).2 ?_
      have : (-b) * d ≤ -b * 1 := Int.mul_le_mul_of_nonpos_left (by omega) hd
      omega
    · have := Int.ediv_nonneg k (show 0 ≤ d by omega); omega
  · rcases Int.lt_or_le n 0 with k | k
    · have := Int.ediv_neg_of_neg_of_pos k (show 0 < d by omega); omega
    · have := Int.ediv_le_self d k; omega
set_option maxHeartbeats 1000000 in
theorem rfloor4_any (n d : Int) (w : World) (hd : 1 ≤ d ∧ d ≤ 1073741824) (hn : -2305843009213693952 ≤ n ∧ n ≤ 2305843009213693952) : Calls Tryz.prog 36 #[.int .i64 n, .int .i64 d] w (fun e w' => e = .returned (.int .i64 (n / d)) ∧ w' = w) := by
  obtain ⟨q, hq⟩ : ∃ q, q = n.tdiv d := ⟨_, rfl⟩
  obtain ⟨f1, f2, f3, f4⟩ := floor4_of hd.1 hq
  obtain ⟨p, hp⟩ : ∃ p, p = q * d := ⟨_, rfl⟩
  rw [← hp] at f1 f2 f3 f4
  have qb := ediv_rng (n := n) (d := d) (b := 2305843009213693952) hd.1 hn (by omega)
  have q5 : (d == 0) = false := beq_eq_false_iff_ne.2 (by omega)
  have q6 : ¬ d = 0 := by omega
  by_cases h : n < p
  · have e := f1 h
    rw [e] at qb ⊢
    have w1 : IntKind.i64.wrap (n.tdiv d) = q := by rw [← hq]; exact IntWalk.i64_in _ (by omega)
    have w2 : IntKind.i64.wrap (q * d) = p := by rw [← hp]; exact IntWalk.i64_in _ (by omega)
    have w4 : IntKind.i64.wrap (q - 1) = q - 1 := IntWalk.i64_in _ (by omega)
    have g : decide (n < p) = true := decide_eq_true h
    clear f1 f2 f3 f4 e h hq hp qb
    go_enter Tryz.func36, Tryz.ntmps36
    go_wp2
    go_ret
    exact ⟨rfl, rfl⟩
  · have e := f2 h
    rw [e] at qb ⊢
    have w1 : IntKind.i64.wrap (n.tdiv d) = q := by rw [← hq]; exact IntWalk.i64_in _ (by omega)
    have w2 : IntKind.i64.wrap (q * d) = p := by rw [← hp]; exact IntWalk.i64_in _ (by omega)
    have g : decide (n < p) = false := decide_eq_false h
    clear f1 f2 f3 f4 e h hq hp qb
    go_enter Tryz.func36, Tryz.ntmps36
    go_wp2
    go_ret
    exact ⟨rfl, rfl⟩
set_option maxHeartbeats 1000000 in
theorem rceil4_any (n d : Int) (w : World) (hd : 1 ≤ d ∧ d ≤ 1073741824) (hn : -2305843009213693952 ≤ n ∧ n ≤ 2305843009213693952) : Calls Tryz.prog 35 #[.int .i64 n, .int .i64 d] w (fun e w' => e = .returned (.int .i64 (up n d)) ∧ w' = w) := by
  have F := hide (fun W => rfloor4_any (-n) d W hd (by omega))
  have qb := ediv_rng (n := -n) (d := d) (b := 2305843009213693952) hd.1 (by omega) (by omega)
  have E : up n d = -(-n / d) := by unfold up dn; rw [if_neg (by omega)]
  rw [E]
  have w1 : IntKind.i64.wrap (0 - n) = -n := by rw [Int.zero_sub]; exact IntWalk.i64_in _ (by omega)
  have w2 : IntKind.i64.wrap (0 - -n / d) = -(-n / d) := by rw [Int.zero_sub]; exact IntWalk.i64_in _ (by omega)
  clear qb hd hn E
  have F2 : ∃ m q k : Int, IntKind.i64.wrap (0 - n) = m ∧ IntKind.i64.wrap (0 - q) = k ∧ -(-n / d) = k ∧ Hid (∀ W, Calls Tryz.prog 36 #[.int .i64 m, .int .i64 d] W (fun e w' => e = .returned (.int .i64 q) ∧ w' = W)) := ⟨-n, -n / d, -(-n / d), w1, w2, rfl, F⟩
  clear F w1 w2
  obtain ⟨m, q, k, w1, w2, ek, F⟩ := F2
  rw [ek]
  have w3 : IntKind.i64.wrap (-n) = m := by rw [← w1, Int.zero_sub]
  have w4 : IntKind.i64.wrap (-q) = k := by rw [← w2, Int.zero_sub]
  clear ek
  go_enter Tryz.func35, Tryz.ntmps35
  go_wp2_with fail
  refine (F.out _).mono ?_
  rintro e w' ⟨rfl, rfl⟩
  go_wp2
  go_ret
  exact ⟨rfl, rfl⟩
end Go.Proofs.YtbmocghfpcfmhaaGreatDoor

namespace Go.Proofs.YtbmocghfpcfmhaaGreatDoor
open Go Go.RowKit

set_option maxHeartbeats 2000000 in
theorem r7valid_any (p : Pnt) (w : World) : Calls Tryz.prog 114 #[p.val] w (RetW (.bool (inP p)) w) := by
  have X := (Own.start w).alloc #[.int .i64 p.x, .int .i64 p.y] 27
  have hr := X.r1
  have E : Hid (inP p = (decide (-16777216 ≤ p.x) && decide (p.x ≤ 16777216) && decide (-16777216 ≤ p.y) && decide (p.y ≤ 16777216))) := hide rfl
  have ways : decide (-16777216 ≤ p.x) = false ∨ (decide (-16777216 ≤ p.x) = true ∧ decide (p.x ≤ 16777216) = false) ∨ (decide (-16777216 ≤ p.x) = true ∧ decide (p.x ≤ 16777216) = true ∧ decide (-16777216 ≤ p.y) = false) ∨
      (decide (-16777216 ≤ p.x) = true ∧ decide (p.x ≤ 16777216) = true ∧ decide (-16777216 ≤ p.y) = true) := by
    cases decide (-16777216 ≤ p.x) <;> cases decide (p.x ≤ 16777216) <;> cases decide (-16777216 ≤ p.y) <;> simp
  rcases ways with q1 | ⟨q1, q2⟩ | ⟨q1, q2, q3⟩ | ⟨q1, q2, q3⟩
  all_goals
    go_enter Tryz.func114, Tryz.ntmps114
    go_wp2
    go_ret
    exact ⟨ret_bool (by rw [E.out]; simp [*]), X.1⟩
def lnE (a b : Pnt) : Int := if (inP a && inP b) = true then if a = b then 25 else 0 else 1
set_option maxHeartbeats 2000000 in
theorem r14line_any (p q : Pnt) (w : World) : Calls Tryz.prog 61 #[p.val, q.val] w (RetW (.int .i64 (lnE p q)) w) := by
  have P1 := hide (fun W => r7valid_any p W)
  have P2 := hide (fun W => r7valid_any q W)
  unfold RetW at P1 P2
  obtain ⟨R, hR⟩ : ∃ R, R = lnE p q := ⟨_, rfl⟩
  rw [← hR]
  unfold lnE at hR
  have X := ((Own.start w).alloc #[.int .i64 p.x, .int .i64 p.y] 27).alloc #[.int .i64 q.x, .int .i64 q.y] 27
  simp only [World.size_alloc] at X
  have hr := X.r2
  cases h1 : inP p with
  | false =>
    rw [h1] at P1 hR
    have HR := hide hR
    clear hR h1 P2
    go_enter Tryz.func61, Tryz.ntmps61
    go_wp2_with fail
    refine (P1.out _).mono ?_
    rintro e w1 ⟨rfl, hb⟩
    replace X := X.to hb
    clear hr hb
    go_wp2
    go_ret
    exact ⟨by rw [HR.out]; rfl, X.1⟩
  | true =>
    rw [h1] at P1 hR
    cases h2 : inP q with
    | false =>
      rw [h2] at P2 hR
      have HR := hide hR
      clear hR h1 h2
      go_enter Tryz.func61, Tryz.ntmps61
      go_wp2_with fail
      refine (P1.out _).mono ?_
      rintro e w1 ⟨rfl, hb⟩
      replace X := X.to hb
      clear hr hb
      have hr := X.r2
      go_wp2_with fail
      refine (P2.out _).mono ?_
      rintro e w2 ⟨rfl, hb⟩
      replace X := X.to hb
      clear hr hb
      go_wp2
      go_ret
      exact ⟨by rw [HR.out]; rfl, X.1⟩
    | true =>
      rw [h2] at P2 hR
      clear h1 h2
      by_cases he : p = q
      · rw [if_pos he] at hR
        subst he
        have x1 : (p.x == p.x) = true := by simp
        have x2 : (p.y == p.y) = true := by simp
        have HR := hide hR
        clear hR
        go_enter Tryz.func61, Tryz.ntmps61
        go_wp2_with fail
        refine (P1.out _).mono ?_
        rintro e w1 ⟨rfl, hb⟩
        replace X := X.to hb
        clear hr hb
        have hr := X.r2
        go_wp2_with fail
        refine (P1.out _).mono ?_
        rintro e w2 ⟨rfl, hb⟩
        replace X := X.to hb
        clear hr hb
        have hr := X.r2
        go_wp2
        go_ret
        exact ⟨by rw [HR.out]; rfl, X.1⟩
      · rw [if_neg he] at hR
        have HR := hide hR
        have ways : (p.x == q.x) = false ∨ ((p.x == q.x) = true ∧ (p.y == q.y) = false) := by
          cases h1 : (p.x == q.x) <;> cases h2 : (p.y == q.y) <;> simp_all
          exact he (by cases p; cases q; simp_all)
        clear hR he
        rcases ways with q1 | ⟨q1, q2⟩
        all_goals
          go_enter Tryz.func61, Tryz.ntmps61
          go_wp2_with fail
          refine (P1.out _).mono ?_
          rintro e w1 ⟨rfl, hb⟩
          replace X := X.to hb
          clear hr hb
          have hr := X.r2
          go_wp2_with fail
          refine (P2.out _).mono ?_
          rintro e w2 ⟨rfl, hb⟩
          replace X := X.to hb
          clear hr hb
          have hr := X.r2
          go_wp2
          go_ret
          exact ⟨by rw [HR.out]; rfl, X.1⟩
theorem gvE_eq (m : Msh) (a b : Pnt) : gvE m a b = if vM m = true then lnE a b else 1 := by
  unfold gvE lnE
  cases vM m <;> cases inP a <;> cases inP b <;> simp
set_option maxHeartbeats 2000000 in
theorem r14given_any (m : Msh) (a : MshA) (p q : Pnt) (w : World) (hm : MshSl w m a) : Calls Tryz.prog 31 #[m.val a, p.val, q.val] w (RetW (.int .i64 (gvE m p q)) w) := by
  have MV := hide (fun W h => mrvalid_any m a W h)
  have LN := hide (fun W => r14line_any p q W)
  unfold RetW at MV LN
  have E := gvE_eq m p q
  have HM := hide hm
  obtain ⟨A1, c1, A2, c2⟩ := a
  have X := (((Own.start w).alloc #[.slice A1 m.ss.length c1, .slice A2 m.fs.length c2] 25).alloc #[.int .i64 p.x, .int .i64 p.y] 27).alloc #[.int .i64 q.x, .int .i64 q.y] 27
  simp only [World.size_alloc] at X
  have hr := X.r3
  rw [E]
  generalize lnE p q = R at *
  clear E hm
  cases h : vM m with
  | false =>
    rw [h] at MV
    clear h
    go_enter Tryz.func31, Tryz.ntmps31
    go_wp2_with fail
    refine (MV.out _ (HM.out.below X.1)).mono ?_
    rintro e w1 ⟨rfl, hb⟩
    replace X := X.to hb
    clear hr hb
    go_wp2
    go_ret
    exact ⟨rfl, X.1⟩
  | true =>
    rw [h] at MV
    clear h
    go_enter Tryz.func31, Tryz.ntmps31
    go_wp2_with fail
    refine (MV.out _ (HM.out.below X.1)).mono ?_
    rintro e w1 ⟨rfl, hb⟩
    replace X := X.to hb
    clear hr hb
    have hr := X.r3
    go_wp2_with fail
    refine (LN.out _).mono ?_
    rintro e w2 ⟨rfl, hb⟩
    replace X := X.to hb
    clear hr hb
    go_wp2
    go_ret
    exact ⟨rfl, X.1⟩
set_option maxHeartbeats 2000000 in
theorem r14at_any (a b : Pnt) (k : Nat) (w : World) (ha : a.in) (hb : b.in) (hk : k ≤ 16) : Calls Tryz.prog 63 #[a.val, b.val, .int .i64 16, .int .i64 (k : Int)] w (RetW (ptA a b k).val w) := by
  obtain ⟨p1, p2⟩ := ptA_bd ha.1 hb.1 hk
  obtain ⟨q1, q2⟩ := ptA_bd ha.2 hb.2 hk
  obtain ⟨⟨a1, a2⟩, a3, a4⟩ := ha
  obtain ⟨⟨b1, b2⟩, b3, b4⟩ := hb
  have X := (((Own.start w).alloc #[.int .i64 a.x, .int .i64 a.y] 27).alloc #[.int .i64 b.x, .int .i64 b.y] 27).alloc #[.int .i64 0, .int .i64 0] 27
  simp only [World.size_alloc] at X
  have ES : Hid ((ptA a b k).val = .agg #[.int .i64 (a.x + (b.x - a.x) * (k : Int) / 16), .int .i64 (a.y + (b.y - a.y) * (k : Int) / 16)]) := hide rfl
  rw [ES.out]
  have e1 := IntWalk.i64_in (b.x - a.x) (by omega)
  have e2 := IntWalk.i64_in (b.y - a.y) (by omega)
  obtain ⟨u, hu⟩ : ∃ u, u = (b.x - a.x) * (k : Int) := ⟨_, rfl⟩
  obtain ⟨v, hv⟩ : ∃ v, v = (b.y - a.y) * (k : Int) := ⟨_, rfl⟩
  rw [← hu] at p1 p2
  rw [← hv] at q1 q2
  rw [← hu, ← hv]
  have w1 : IntKind.i64.wrap ((b.x - a.x) * (k : Int)) = u := by rw [← hu]; exact IntWalk.i64_in _ (by omega)
  have w2 : IntKind.i64.wrap ((b.y - a.y) * (k : Int)) = v := by rw [← hv]; exact IntWalk.i64_in _ (by omega)
  have F1 := hide (fun W => (rfloor4_any u 16 W (by omega) (by omega)).mono fun _ _ ⟨h1, h2⟩ => And.intro h1 h2.symm)
  have F2 := hide (fun W => (rfloor4_any v 16 W (by omega) (by omega)).mono fun _ _ ⟨h1, h2⟩ => And.intro h1 h2.symm)
  have w3 := IntWalk.i64_in (a.x + u / 16) (by omega)
  have w4 := IntWalk.i64_in (a.y + v / 16) (by omega)
  clear hu hv p1 q1 p2 q2 a1 a2 a3 a4 b1 b2 b3 b4 ES hk
  generalize u / 16 = u2 at *
  generalize v / 16 = v2 at *
  have NE := ownw_ne X
  have C1 := ownw_r3 X
  go_enter Tryz.func63, Tryz.ntmps63
  go_wp2
  refine wp_region_own_tail (w := w) 24 (by kernel_rfl) (by kernel_rfl) X ?_
  simp only [List.take_succ_cons, List.take_zero, List.drop_succ_cons, List.drop_zero]
  repeat (go_big_quiet_step ((rename_i y; first | with_reducible exact own_same (F1.out _) | with_reducible exact own_same (F2.out _))))
  refine wpQuiet_nil ?_
  rintro W ⟨⟨W, HO⟩, rfl⟩
  have hr := HO.r3
  have XB := hide HO.1
  clear NE C1 X
  go_wp2
  refine bodyPost_ret (v := .agg #[.int .i64 (a.x + u2), .int .i64 (a.y + v2)]) (by simp [results, Tryz.results63, hr, go_sem]) rfl ⟨rfl, ?_⟩
  exact below_set (below_set XB.out (by omega) _) (by omega) _
set_option maxHeartbeats 400000 in
theorem r14parts (w : World) : Calls Tryz.prog 62 #[.int .i64 16] w fun e w' => e = .returned (.bool true) ∧ w' = w := by
  go_enter Tryz.func62, Tryz.ntmps62
  go_wp2
  go_ret
  exact ⟨rfl, rfl⟩
set_option maxRecDepth 100000 in
set_option maxHeartbeats 4000000 in
theorem r14levels_any (m : Msh) (a : MshA) (p q : Pnt) (w : World) (hm : MshSl w m a) (hv : vM m = true) (hp : p.in) (hq : q.in) (hne : p ≠ q) :
    Calls Tryz.prog 33 #[m.val a, p.val, q.val, .int .i64 16] w (LvsPost (lvL m p q 17) (lvE m p q) w) := by
  obtain ⟨i0, hi0, hz0, hz1, hz2⟩ := info_parts span_info48
  have GV := hide (fun W h => r14given_any m a p q W h)
  have eG : gvE m p q = 0 := by unfold gvE; rw [hv, inP_iff.2 hp, inP_iff.2 hq]; simp [hne]
  rw [eG] at GV
  have PS := hide r14parts
  have AT := hide (fun k (hk : k < 17) W => r14at_any p q k W hp hq (by omega))
  have FC := hide (fun W r (hr : r.in) h => mrface_any m a r W h hv hr)
  have LV := hide (fun W r (hr : r.in) k (hk : k < m.fs.length) (ho : onB (triA m.ss m.fs[k]) r = true) h => mrlevel_any m a k r W h hk (okF_of hv hk) hr ho)
  have PN := hide (fun k (hk : k < 17) => ptA_in hp hq (k := k) (by omega))
  unfold RetW at GV AT FC LV
  have HM := hide hm
  obtain ⟨A1, c1, A2, c2⟩ := a
  have X := (((Own.start w).alloc #[.slice A1 m.ss.length c1, .slice A2 m.fs.length c2] 25).alloc #[.int .i64 p.x, .int .i64 p.y] 27).alloc #[.int .i64 q.x, .int .i64 q.y] 27
  simp only [World.size_alloc] at X
  have hr := X.r3
  clear hm hv hp hq hne eG
  go_enter Tryz.func33, Tryz.ntmps33
  go_wp2_with fail
  refine (GV.out _ (HM.out.below X.1)).mono ?_
  rintro e w2 ⟨rfl, hb⟩
  replace X := X.to hb
  clear hr hb
  have hr := X.r3
  go_wp2_with fail
  refine (PS.out _).mono ?_
  rintro e w' ⟨rfl, rfl⟩
  have lw := hr.2.2.2.2
  have XB := hide X.1
  have HM2 := hide (HM.out.below X.1)
  have CM := hide (fun W (h : Below w'.heap.size w' W) => And.intro ((h.cell (p := ⟨w.heap.size, 0, none⟩) hr.2.2.2.2).trans (hr.2.2.1 0)) (And.intro ((h.cell (p := ⟨w.heap.size, 1, none⟩) hr.2.2.2.2).trans (hr.2.2.1 1))
    (And.intro ((h.cell (p := ⟨w.heap.size + 1, 0, none⟩) hr.2.1.2.2).trans (hr.2.1.1 0)) (And.intro ((h.cell (p := ⟨w.heap.size + 1, 1, none⟩) hr.2.1.2.2).trans (hr.2.1.1 1))
    (And.intro ((h.cell (p := ⟨w.heap.size + 1 + 1, 0, none⟩) hr.1.2.2).trans (hr.1.1 0)) ((h.cell (p := ⟨w.heap.size + 1 + 1, 1, none⟩) hr.1.2.2).trans (hr.1.1 1)))))))
  have lw1 := hr.2.1.2.2
  have lw2 := hr.1.2.2
  clear X HM GV PS
  go_wp2
  have XH := hide (And.intro (Below.refl w'.heap.size w') (World.ownsRow_nil w' w'.heap.size 31 2))
  clear hr
  go_loopw [11, 12] (fun v11 v12 wr => ∃ k : Nat, k ≤ 17 ∧ v12 = .int .i64 (k : Int) ∧ Hid (Below w'.heap.size w' wr ∧ wr.ownsRow w'.heap.size 31 2 v11 k (flV Sp.lo Sp.hi (lvL m p q k))) ∧ Hid (allL m p q k = true)) (fun _ v12 _ => 17 - (intOf v12).toNat)
  case atStart => exact ⟨0, by omega, rfl, XH, hide rfl⟩
  case round =>
    clear XH
    obtain ⟨k, hk, rfl, HY, HL⟩ := hrel
    have hr := CM.out _ HY.out.1
    by_cases hlt : k < 17
    · have g1 : decide (k ≤ 16) = true := decide_eq_true (by omega)
      have g2 : (k : Int) ≤ 16 := by omega
      have ATk := hide (AT.out k hlt)
      have FCk := hide (fun W h => FC.out W (ptA p q k) (PN.out k hlt) h)
      have LVk := hide (fun W j hj ho h => LV.out W (ptA p q k) (PN.out k hlt) j hj ho h)
      have ES := hide (allL_succ m p q k)
      have EL := hide (lvL_succ m p q k)
      have EG : Hid (lvG m p q k = (lvA m (ptA p q k)).getD Sp.zero) := hide rfl
      have EN : Hid (lvA m (ptA p q k) = none → lvE m p q = 12) := hide (fun h => by
        unfold lvE
        rw [if_neg]
        intro hc
        have := allL_at hc hlt
        rw [h] at this
        cases this)
      have wl := HY.out.1.size
      have m0 : ¬ w.heap.size = wr.heap.size := by omega
      have ways : (fdI2 (fdA m (ptA p q k)) = -1 ∧ lvA m (ptA p q k) = none) ∨ ∃ (j : Nat) (hj : j < m.fs.length), fdI2 (fdA m (ptA p q k)) = (j : Int) ∧ onB (triA m.ss m.fs[j]) (ptA p q k) = true ∧ lvA m (ptA p q k) = some (lvS m.ss m.fs[j] (ptA p q k)) := by
        cases e : fdA m (ptA p q k) with
        | none => exact .inl ⟨rfl, by simp [lvA, e]⟩
        | some j =>
          obtain ⟨hj, ho, _⟩ := fdA_some.1 e
          exact .inr ⟨j, hj, rfl, ho, by simp [lvA, e, fcA, hj]⟩
      generalize ptA p q k = r at *
      rcases ways with ⟨ej, eo⟩ | ⟨j, hj, ej, ho, eo⟩
      · rw [ej] at FCk
        have E12 := hide (EN.out eo)
        clear EN ES EG EL HL ej eo LVk FC LV AT PN
        go_wp2_with fail
        refine (ATk.out _).mono ?_
        rintro e w3 ⟨rfl, hb⟩
        have B3 := hide (((below_via HY.out.1 wl hb)).alloc (Nat.le_trans wl hb.size) (.cells #[.int .i64 r.x, .int .i64 r.y] 27))
        have z3 := Nat.le_trans wl hb.size
        clear hr hb HY
        have hr := CM.out _ B3.out
        have n3 : ¬ w.heap.size = w3.heap.size := by omega
        go_wp2_with fail
        refine (FCk.out _ (HM2.out.below B3.out)).mono ?_
        rintro e w4 ⟨rfl, hb⟩
        have HP := hide (show LvsPost (lvL m p q 17) (lvE m p q) w (.returned (.tuple #[.slice none 0 0, .int .i64 12])) w4 from ⟨below_via XB.out XB.out.size (below_via B3.out B3.out.size hb), none, 0, 0, by rw [E12.out], fun h => by rw [E12.out] at h; cases h⟩)
        clear hb hr
        go_wp2
        go_ret2
        exact HP.out
      · rw [ej] at FCk
        have LVj := hide (fun W h => LVk.out W j hj ho h)
        obtain ⟨s, hs⟩ : ∃ s, s = lvS m.ss m.fs[j] r := ⟨_, rfl⟩
        rw [← hs] at LVj eo
        have gj : ¬ (j : Int) < 0 := by omega
        have EG2 : Hid (lvG m p q k = s) := hide (by rw [EG.out, eo]; rfl)
        have EA : Hid (allL m p q (k + 1) = true) := hide (by rw [ES.out, HL.out, eo]; rfl)
        obtain ⟨L, hL⟩ : ∃ L, L = lvL m p q k := ⟨_, rfl⟩
        have EL2 : Hid (lvL m p q (k + 1) = L ++ [s]) := hide (by rw [EL.out, EG2.out, hL])
        have R0 := hide HY.out.2
        rw [← hL] at R0
        have B0 := hide HY.out.1
        clear HY EN ES EG EL HL EG2 hL ej eo ho hs FC LV AT PN LVk
        go_wp2_with fail
        refine (ATk.out _).mono ?_
        rintro e w3 ⟨rfl, hb⟩
        have B3 := hide (((below_via B0.out wl hb)).alloc (Nat.le_trans wl hb.size) (.cells #[.int .i64 r.x, .int .i64 r.y] 27))
        have R3 := hide ((row_below R0.out hb).alloc (.cells #[.int .i64 r.x, .int .i64 r.y] 27))
        have z3 := Nat.le_trans wl hb.size
        have n3 : ¬ w.heap.size = w3.heap.size := by omega
        clear hr hb B0 R0
        have hr := CM.out _ B3.out
        go_wp2_with fail
        refine (FCk.out _ (HM2.out.below B3.out)).mono ?_
        rintro e w4 ⟨rfl, hb⟩
        have B4 := hide (below_via B3.out B3.out.size hb)
        have R4 := hide (row_below R3.out hb)
        have P40 : w4.cell? ⟨w3.heap.size, 0, none⟩ = some (.int .i64 r.x) := (hb.cell (p := ⟨w3.heap.size, 0, none⟩) (by simp)).trans (by simp)
        have P41 : w4.cell? ⟨w3.heap.size, 1, none⟩ = some (.int .i64 r.y) := (hb.cell (p := ⟨w3.heap.size, 1, none⟩) (by simp)).trans (by simp)
        have P4 := hide (And.intro P40 P41)
        clear P40 P41
        clear hr hb R3 B3
        have hr := CM.out _ B4.out
        have hr4 : w4.cell? ⟨w3.heap.size, 0, none⟩ = some (.int .i64 r.x) ∧ w4.cell? ⟨w3.heap.size, 1, none⟩ = some (.int .i64 r.y) := P4.out
        go_wp2_with fail
        refine (LVj.out _ (HM2.out.below B4.out)).mono ?_
        rintro e w5 ⟨rfl, hb⟩
        have B5 := hide (below_via B4.out B4.out.size hb)
        have R5 := hide (row_below R4.out hb)
        clear hb B4 R4 hr hr4 P4
        have B6 := hide (B5.out.alloc B5.out.size (.cells #[.int .i64 s.lo, .int .i64 s.hi] 31))
        have R6 := hide (R5.out.alloc (.cells #[.int .i64 s.lo, .int .i64 s.hi] 31))
        have NW := hide (World.news_of_block (cs := #[.int .i64 s.lo, .int .i64 s.hi]) (t := 31) (fr := (0, 0)) (heap_alloc_new w5 _))
        have f4 : ∀ y ∈ [Value.int .i64 s.lo, .int .i64 s.hi], y.oneCell' = true := by simp [Value.oneCell']
        have f1 : k + 1 ≤ maxLen := by unfold maxLen; omega
        have f2 : (k + 1) * 16 ≤ 140737488355328 := by omega
        have f3 := B6.out.size
        clear B5 R5
        go_wp2_with (at_builtin; refine wpList_append_own _ rfl _ _ 65 rfl w'.heap.size 31 i0 (.agg #[.int .i64 0, .int .i64 0]) 2 16 Tryz.underlying65 hi0 hz0 hz1 hz2 rfl (by decide) _ k (flV Sp.lo Sp.hi L) rfl R6.out ⟨w5.heap.size, 0, none⟩ 1 1 [.int .i64 s.lo, .int .i64 s.hi] rfl rfl NW.out f4 f1 f2 f3 ?_; intro v5 w6 hown5 hgrow hor)
        have B7 := B6.out.grown hgrow B6.out.size (fun j hj => (R6.out.lt j hj).1)
        have HZ : Hid (Below w'.heap.size w' w6 ∧ w6.ownsRow w'.heap.size 31 2 v5 (k + 1) (flV Sp.lo Sp.hi (lvL m p q (k + 1)))) := hide ⟨B7, by rw [EL2.out, flV_append]; exact hown5⟩
        clear hown5 hgrow hor B7 B6 R6
        go_roundw
        case rel => exact ⟨k + 1, by omega, by go_num, HZ, EA⟩
        case measure => simp [intOf]; omega
    · obtain rfl : k = 17 := by omega
      have g1 : decide (17 ≤ 16) = false := by decide
      have E0 : lvE m p q = 0 := by unfold lvE; rw [if_pos HL.out]
      obtain ⟨g, cap', e, hg, hlt2, hat⟩ := row_pairs Sp.lo Sp.hi HY.out.2 (by rw [lvL_len]; omega)
      subst e
      have SS : SpnSl wr (some ⟨g, 0, none⟩) (lvL m p q 17) := ⟨by rw [lvL_len]; omega, fun _ => ⟨g, 0, rfl, hlt2, fun i hi => by rw [Nat.zero_add]; exact hat i hi⟩⟩
      have HP := hide (show LvsPost (lvL m p q 17) (lvE m p q) w (.returned (.tuple #[.slice (some ⟨g, 0, none⟩) (lvL m p q 17).length cap', .int .i64 0])) wr from ⟨below_via XB.out XB.out.size HY.out.1, _, _, cap', by rw [E0], fun _ => ⟨rfl, SS⟩⟩)
      clear hat SS HY E0 hr
      go_wp2
      go_ret2
      exact HP.out
end Go.Proofs.YtbmocghfpcfmhaaGreatDoor

namespace Go.Proofs.YtbmocghfpcfmhaaGreatDoor
open Go Go.RowKit

theorem r3mul_eq (a b : Nat) (w : World) (ha : a < 18446744073709551616) (hb : b < 18446744073709551616) :
    Calls Tryz.prog 118 #[.int .u64 (a : Int), .int .u64 (b : Int)] w fun e w' => e = .returned (Ud (a * b / 18446744073709551616) (a * b % 18446744073709551616)) ∧ Below w.heap.size w w' :=
  (r3mul_any a b w ha hb).mono fun e w' ⟨⟨h, l, he, h1, h2, h3⟩, hb⟩ => ⟨by rw [he, show a * b / 18446744073709551616 = h by omega, show a * b % 18446744073709551616 = l by omega], hb⟩
/-- after i rounds -/
def RRel (n i r : Nat) : Prop := ∃ m : Nat, i ≤ 63 ∧ r = m * 2 ^ (63 - i) ∧ r + 2 ^ (63 - i) ≤ 2 ^ 63 ∧ r * r ≤ n ∧ n < (r + 2 ^ (63 - i)) * (r + 2 ^ (63 - i))
theorem rrel_start {n : Nat} (h : n ≤ 2251799813685248) : RRel n 0 0 := ⟨0, by omega, by simp, by simp, by simp, by simp; omega⟩
theorem rrel_round {n i r : Nat} (h : RRel n i r) (hi : i < 63) : r + 2 ^ (62 - i) < 18446744073709551616 ∧ 2 ^ (62 - i) < 18446744073709551616 ∧ r < 18446744073709551616 ∧
    ((r + 2 ^ (62 - i)) * (r + 2 ^ (62 - i)) ≤ n → RRel n (i + 1) (r + 2 ^ (62 - i))) ∧ (n < (r + 2 ^ (62 - i)) * (r + 2 ^ (62 - i)) → RRel n (i + 1) r) := by
  obtain ⟨m, e2, e3, e4, e5, e6⟩ := h
  have e : 63 - i = (62 - i) + 1 := by omega
  have e' : 63 - (i + 1) = 62 - i := by omega
  rw [e] at e3 e4 e6
  unfold RRel
  rw [e']
  have hpow : 2 ^ (62 - i + 1) = 2 * 2 ^ (62 - i) := by rw [Nat.pow_succ, Nat.mul_comm]
  have hq : 0 < 2 ^ (62 - i) := Nat.two_pow_pos _
  rw [hpow] at e3 e4 e6
  generalize 2 ^ (62 - i) = Q at *
  have e3' : r = 2 * m * Q := by rw [e3, ← Nat.mul_assoc, Nat.mul_comm m 2]
  have e3'' : r + Q = (2 * m + 1) * Q := by rw [e3', Nat.add_mul]; omega
  refine ⟨by omega, by omega, by omega, fun h => ⟨2 * m + 1, by omega, e3'', by omega, h, ?_⟩, fun h => ⟨2 * m, by omega, e3', by omega, e5, h⟩⟩
  rw [show r + Q + Q = r + 2 * Q by omega]
  exact e6
theorem rrel_end {n : Nat} {r : Nat} (h : RRel n 63 r) : isq (n : Int) = r := by
  obtain ⟨m, e2, e3, e4, e5, e6⟩ := h
  simp only [Nat.sub_self, Nat.pow_zero] at e6
  refine isq_uniq (by omega) (by omega) ?_ ?_
  · exact_mod_cast e5
  · exact_mod_cast e6
set_option maxRecDepth 100000 in
set_option maxHeartbeats 2000000 in
theorem r3root_any (n : Nat) (w : World) (h1 : n ≤ 2251799813685248) : Calls Tryz.prog 67 #[Ud 0 n] w (RetW (.int .u64 (isq (n : Int))) w) := by
  have X := (Own.start w).alloc #[.int .u64 ((0 : Nat) : Int), .int .u64 (n : Int)] 109
  have ST := hide (rrel_start h1)
  have HN := hide h1
  clear h1
  go_enter Tryz.func67, Tryz.ntmps67
  go_wp2
  go_loopw [3, 4] (fun v3 v4 wr => ∃ r i : Nat, i ≤ 63 ∧ v3 = .int .u64 (r : Int) ∧ v4 = .int .i64 (i : Int) ∧ Hid (RRel n i r) ∧ Hid (Own w wr [(w.heap.size, 109, #[.int .u64 ((0 : Nat) : Int), .int .u64 (n : Int)])])) (fun _ v4 _ => 63 - (intOf v4).toNat)
  case atStart => exact ⟨0, 0, by omega, rfl, rfl, ST, hide X⟩
  case round =>
    clear ST X
    obtain ⟨r, i, hi, rfl, rfl, HR, HX⟩ := hrel
    by_cases hlt : i < 63
    · have g1 : decide (i < 63) = true := decide_eq_true hlt
      obtain ⟨b1, b2, b3, RY, RN⟩ := rrel_round HR.out hlt
      have HY := hide RY
      have HNo := hide RN
      clear RY RN
      obtain ⟨Q, hQ⟩ : ∃ Q, Q = 2 ^ (62 - i) := ⟨_, rfl⟩
      rw [← hQ] at b1 b2 HY HNo
      obtain ⟨j, hj⟩ : ∃ j, j = 62 - i := ⟨_, rfl⟩
      have s1 : IntKind.i64.wrap (62 - (i : Int)) = (j : Int) := by rw [hj]; rw [IntWalk.i64_in _ (by omega)]; omega
      have s2 : IntKind.u64.wrap (j : Int) = (j : Int) := u64_nat (by omega)
      have s3 : Op.shift .shl .u64 1 .u64 (j : Int) = pure (.int .u64 (Q : Int)) := by
        unfold Op.shift
        rw [if_neg (by omega)]
        have : min (j : Int).toNat IntKind.u64.bits = j := by show min _ 64 = _; omega
        rw [this]
        simp only [Int.one_mul]
        congr 2
        rw [show (2 : Int) ^ j = ((2 ^ j : Nat) : Int) by simp, hj, ← hQ]
        exact u64_nat b2
      clear hQ hj
      obtain ⟨t, ht⟩ : ∃ t, t = r + Q := ⟨_, rfl⟩
      have s4 : IntKind.u64.wrap ((r : Int) + (Q : Int)) = (t : Int) := e_addw ht (by omega)
      rw [← ht] at b1 HY HNo
      clear ht
      have ML := hide (fun W => r3mul_eq t t W b1 b1)
      have LS := hide (fun W => r3less_any 0 n (t * t / 18446744073709551616) (t * t % 18446744073709551616) W (by have := HN.out; omega) (by omega))
      have EV : Hid (t * t / 18446744073709551616 * 18446744073709551616 + t * t % 18446744073709551616 = t * t) := hide (by omega)
      rw [EV.out] at LS
      simp only [Nat.zero_mul, Nat.zero_add] at LS
      generalize t * t / 18446744073709551616 = th at *
      generalize t * t % 18446744073709551616 = tl at *
      generalize t * t = tt at *
      have hr := HX.out.r1
      have HY2 := hide (fun (h : decide (n < tt) = false) => HY.out (by have := of_decide_eq_false h; omega))
      have HN2 := hide (fun (h : decide (n < tt) = true) => HNo.out (of_decide_eq_true h))
      clear HY HNo
      generalize decide (n < tt) = lt at *
      have NE := ownw_ne HX.out
      have C1 := ownw_r1 HX.out
      clear EV
      go_upto_region 6 with (fail)
      refine wp_region_own (w := w) (L := [(w.heap.size, 109, #[.int .u64 ((0 : Nat) : Int), .int .u64 (n : Int)])]) (by kernel_rfl) (by kernel_rfl) HX.out ?_
      repeat (go_big_quiet_step ((rename_i x; first | with_reducible exact own_call (ML.out _) | with_reducible exact own_call (LS.out _))))
      refine wpQuiet_nil ?_
      rintro W ⟨⟨W, HO⟩, rfl⟩
      replace HX := hide HO
      clear HO hr NE C1 ML LS
      cases lt
      · have HR2 := hide (HY2.out rfl)
        clear HN2 HY2
        go_wp2
        go_roundw
        case rel => exact ⟨t, i + 1, by omega, rfl, by go_num, HR2, HX⟩
        case measure => simp [intOf]; omega
      · have HR2 := hide (HN2.out rfl)
        clear HN2 HY2
        go_wp2
        go_roundw
        case rel => exact ⟨r, i + 1, by omega, rfl, by go_num, HR2, HX⟩
        case measure => simp [intOf]; omega
    · obtain rfl : i = 63 := by omega
      have E := hide (rrel_end HR.out)
      have XB := hide HX.out.1
      clear HX HR
      go_wp2
      go_ret
      exact ⟨by rw [E.out]; rfl, XB.out⟩
set_option maxHeartbeats 1000000 in
theorem rsquare_any (a b : Pnt) (w : World) (ha : a.in) (hb : b.in) : Calls Tryz.prog 66 #[a.val, b.val] w (RetW (.int .i64 (sqD a b)) w) := by
  obtain ⟨⟨⟨s1, s2⟩, s3, s4⟩, s5, s6⟩ := sqD_bd ha hb
  obtain ⟨⟨a1, a2⟩, a3, a4⟩ := ha
  obtain ⟨⟨b1, b2⟩, b3, b4⟩ := hb
  have X := ((Own.start w).alloc #[.int .i64 a.x, .int .i64 a.y] 27).alloc #[.int .i64 b.x, .int .i64 b.y] 27
  simp only [World.size_alloc] at X
  have hr := X.r2
  have E : Hid (sqD a b = (a.x - b.x) * (a.x - b.x) + (a.y - b.y) * (a.y - b.y)) := hide rfl
  generalize sqD a b = t at *
  have e1 := IntWalk.i64_in (a.x - b.x) (by omega)
  have e2 := IntWalk.i64_in (a.y - b.y) (by omega)
  obtain ⟨p, hp⟩ : ∃ p, p = (a.x - b.x) * (a.x - b.x) := ⟨_, rfl⟩
  obtain ⟨q, hq⟩ : ∃ q, q = (a.y - b.y) * (a.y - b.y) := ⟨_, rfl⟩
  rw [← hp, ← hq] at E
  rw [← hp] at s1 s2
  rw [← hq] at s3 s4
  have w1 : IntKind.i64.wrap ((a.x - b.x) * (a.x - b.x)) = p := by rw [← hp]; exact IntWalk.i64_in _ (by omega)
  have w2 : IntKind.i64.wrap ((a.y - b.y) * (a.y - b.y)) = q := by rw [← hq]; exact IntWalk.i64_in _ (by omega)
  have w3 := IntWalk.i64_in (p + q) (by omega)
  have XB := hide X.1
  clear hp hq X s5 s6
  go_enter Tryz.func66, Tryz.ntmps66
  go_wp2
  go_ret
  exact ⟨by rw [E.out]; rfl, XB.out⟩
set_option maxRecDepth 100000 in
set_option maxHeartbeats 2000000 in
theorem rdist_any (a b : Pnt) (w : World) (ha : a.in) (hb : b.in) : Calls Tryz.prog 37 #[a.val, b.val] w (RetW (dsS a b).val w) := by
  obtain ⟨_, s5, s6⟩ := sqD_bd ha hb
  have SQ := hide (fun W => rsquare_any a b W ha hb)
  have X := (((Own.start w).alloc #[.int .i64 a.x, .int .i64 a.y] 27).alloc #[.int .i64 b.x, .int .i64 b.y] 27).alloc #[.int .i64 0, .int .i64 0] 31
  simp only [World.size_alloc] at X
  have hr := X.r3
  obtain ⟨n, hn⟩ : ∃ n : Nat, sqD a b = (n : Int) := ⟨(sqD a b).toNat, by omega⟩
  rw [hn] at SQ s5 s6
  have RT := hide (fun W => r3root_any n W (by omega))
  obtain ⟨k0, k1, k2⟩ := isq_bd s5
  have k3 : isq (n : Int) < 67108863 := sq_lt k0 (by omega) (by omega)
  have ED : Hid ((dsS a b).val = .agg #[.int .i64 (isq (n : Int)), .int .i64 (if isq (n : Int) * isq (n : Int) < n then isq (n : Int) + 1 else isq (n : Int))]) := hide (by unfold Sp.val dsS isqU; rw [hn])
  rw [ED.out]
  unfold RetW at SQ RT
  obtain ⟨r, hr'⟩ : ∃ r : Nat, isq (n : Int) = (r : Int) := ⟨(isq (n : Int)).toNat, by omega⟩
  rw [hr'] at RT k1 k3 ⊢
  have u1 : IntKind.u64.wrap (n : Int) = (n : Int) := u64_nat (by omega)
  have u2 : IntKind.i64.wrap (r : Int) = (r : Int) := IntWalk.i64_in _ (by omega)
  obtain ⟨q, hq⟩ : ∃ q : Nat, q = r * r := ⟨_, rfl⟩
  have hq' : (r : Int) * (r : Int) = (q : Int) := by rw [hq, Int.natCast_mul]
  rw [hq'] at k1 ⊢
  have w1 : IntKind.i64.wrap ((r : Int) * (r : Int)) = (q : Int) := by rw [hq']; exact IntWalk.i64_in _ (by omega)
  have w2 : IntKind.i64.wrap ((r : Int) + 1) = (r : Int) + 1 := IntWalk.i64_in _ (by omega)
  clear hq hq' k2 k0 s5 hn hr' ED ha hb
  show Calls _ _ _ w (RetW _ w)
  by_cases h : q < n
  · have hd : decide (q < n) = true := decide_eq_true h
    rw [if_pos (show (q : Int) < (n : Int) by omega)]
    go_enter Tryz.func37, Tryz.ntmps37
    go_wp2_with fail
    refine (SQ.out _).mono ?_
    rintro e w1 ⟨rfl, hb⟩
    replace X := X.to hb
    clear hb hr
    have hr := X.r3
    go_wp2_with fail
    refine (RT.out _).mono ?_
    rintro e w2 ⟨rfl, hb⟩
    replace X := X.to hb
    clear hb hr
    have hr := X.r3
    go_wp2
    refine bodyPost_ret (v := .agg #[.int .i64 (r : Int), .int .i64 ((r : Int) + 1)]) (by simp [results, Tryz.results37, hr, go_sem]) rfl ⟨rfl, ?_⟩
    exact below_set (below_set X.1 (by omega) _) (by omega) _
  · have hd : decide (q < n) = false := decide_eq_false h
    rw [if_neg (show ¬ (q : Int) < (n : Int) by omega)]
    go_enter Tryz.func37, Tryz.ntmps37
    go_wp2_with fail
    refine (SQ.out _).mono ?_
    rintro e w1 ⟨rfl, hb⟩
    replace X := X.to hb
    clear hb hr
    have hr := X.r3
    go_wp2_with fail
    refine (RT.out _).mono ?_
    rintro e w2 ⟨rfl, hb⟩
    replace X := X.to hb
    clear hb hr
    have hr := X.r3
    go_wp2
    refine bodyPost_ret (v := .agg #[.int .i64 (r : Int), .int .i64 (r : Int)]) (by simp [results, Tryz.results37, hr, go_sem]) rfl ⟨rfl, ?_⟩
    exact below_set (below_set X.1 (by omega) _) (by omega) _
end Go.Proofs.YtbmocghfpcfmhaaGreatDoor

namespace Go.Proofs.YtbmocghfpcfmhaaGreatDoor

theorem dn_mono {n m d : Int} (hd : 0 < d) (h : n ≤ m) : dn n d ≤ dn m d := by
  obtain ⟨k1, _⟩ := dn_bd (n := n) hd
  obtain ⟨_, k2⟩ := dn_bd (n := m) hd
  have : dn n d * d < (dn m d + 1) * d := by omega
  have := Int.lt_of_mul_lt_mul_right this (by omega)
  omega
theorem up_mono {n m d : Int} (hd : 0 < d) (h : n ≤ m) : up n d ≤ up m d := by
  have := dn_mono (n := -m) (m := -n) hd (by omega)
  unfold up; omega
theorem dn_nn {n d : Int} (hd : 0 < d) (h : 0 ≤ n) : 0 ≤ dn n d := by
  unfold dn; rw [if_neg (by omega)]; exact Int.ediv_nonneg h (by omega)
theorem up_nn {n d : Int} (hd : 0 < d) (h : 0 ≤ n) : 0 ≤ up n d := by
  obtain ⟨k1, _⟩ := up_bd (n := n) hd
  rcases Int.lt_or_le (up n d) 0 with k | k
  · have : up n d * d ≤ (-1) * d := Int.mul_le_mul_of_nonneg_right (by omega) (by omega)
    omega
  · exact k
theorem dn_up {n d : Int} (hd : 0 < d) : dn n d ≤ up n d := by
  obtain ⟨k1, _⟩ := dn_bd (n := n) hd
  obtain ⟨j1, _⟩ := up_bd (n := n) hd
  exact Int.le_of_mul_le_mul_right (by omega : dn n d * d ≤ up n d * d) hd
theorem dn_den {n d e : Int} (hd : 0 < d) (he : d ≤ e) (h : 0 ≤ n) : dn n e ≤ dn n d := by
  obtain ⟨k1, _⟩ := dn_bd (n := n) (d := e) (by omega)
  obtain ⟨_, k2⟩ := dn_bd (n := n) hd
  have h0 := dn_nn (n := n) (d := e) (by omega) h
  have : dn n e * d ≤ dn n e * e := Int.mul_le_mul_of_nonneg_left he h0
  have : dn n e * d < (dn n d + 1) * d := by omega
  have := Int.lt_of_mul_lt_mul_right this (by omega)
  omega
theorem up_den {n d e : Int} (hd : 0 < d) (he : d ≤ e) (h : 0 ≤ n) : up n e ≤ up n d := by
  obtain ⟨_, k1⟩ := up_bd (n := n) (d := e) (by omega)
  obtain ⟨k2, _⟩ := up_bd (n := n) hd
  have h0 := up_nn (n := n) hd h
  have : up n d * d ≤ up n d * e := Int.mul_le_mul_of_nonneg_left he h0
  have : (up n e - 1) * e < up n d * e := by omega
  have := Int.lt_of_mul_lt_mul_right this (by omega)
  omega
/-- so many years of a rate n / d -/
def prL (n d : Int) : Nat → Int → Int
  | 0, c => c
  | y + 1, c => dn (prL n d y c * d) (d + n)
def prU (n d : Int) : Nat → Int → Int
  | 0, c => c
  | y + 1, c => up (prU n d y c * d) (d + n)
theorem prL_add (n d : Int) (a c) : ∀ b, prL n d (a + b) c = prL n d b (prL n d a c)
  | 0 => rfl
  | b + 1 => by rw [← Nat.add_assoc]; simp only [prL]; rw [prL_add n d a c b]
theorem prU_add (n d : Int) (a c) : ∀ b, prU n d (a + b) c = prU n d b (prU n d a c)
  | 0 => rfl
  | b + 1 => by rw [← Nat.add_assoc]; simp only [prU]; rw [prU_add n d a c b]
theorem dn_step {n d x : Int} (hn : 0 ≤ n) (hd : 1 ≤ d) (hx : 0 ≤ x) : 0 ≤ dn (x * d) (d + n) ∧ dn (x * d) (d + n) ≤ x := by
  have h0 : 0 ≤ x * d := Int.mul_nonneg hx (by omega)
  refine ⟨dn_nn (by omega) h0, ?_⟩
  obtain ⟨k1, _⟩ := dn_bd (n := x * d) (d := d + n) (by omega)
  have : x * d ≤ x * (d + n) := Int.mul_le_mul_of_nonneg_left (by omega) hx
  exact Int.le_of_mul_le_mul_right (by omega : dn (x * d) (d + n) * (d + n) ≤ x * (d + n)) (by omega)
theorem up_step {n d x : Int} (hn : 0 ≤ n) (hd : 1 ≤ d) (hx : 0 ≤ x) : 0 ≤ up (x * d) (d + n) ∧ up (x * d) (d + n) ≤ x := by
  have h0 : 0 ≤ x * d := Int.mul_nonneg hx (by omega)
  refine ⟨up_nn (by omega) h0, ?_⟩
  obtain ⟨_, k1⟩ := up_bd (n := x * d) (d := d + n) (by omega)
  have : x * d ≤ x * (d + n) := Int.mul_le_mul_of_nonneg_left (by omega) hx
  have : (up (x * d) (d + n) - 1) * (d + n) < x * (d + n) := by omega
  have := Int.lt_of_mul_lt_mul_right this (by omega)
  omega
theorem pr_bd {n d c : Int} (hn : 0 ≤ n) (hd : 1 ≤ d) (hc : 0 ≤ c) : ∀ y, 0 ≤ prL n d y c ∧ prL n d y c ≤ prU n d y c ∧ prU n d y c ≤ c
  | 0 => by simp [prL, prU]; omega
  | y + 1 => by
    obtain ⟨h1, h2, h3⟩ := pr_bd hn hd hc y
    simp only [prL, prU]
    have a := dn_step hn hd h1
    have b := up_step hn hd (x := prU n d y c) (by omega)
    have m : dn (prL n d y c * d) (d + n) ≤ dn (prU n d y c * d) (d + n) := dn_mono (by omega) (Int.mul_le_mul_of_nonneg_right h2 (by omega))
    have k := dn_up (n := prU n d y c * d) (d := d + n) (by omega)
    omega
theorem pr_later {n d c : Int} (hn : 0 ≤ n) (hd : 1 ≤ d) (hc : 0 ≤ c) (a : Nat) : ∀ b, prL n d (a + b) c ≤ prL n d a c ∧ prU n d (a + b) c ≤ prU n d a c
  | 0 => ⟨Int.le_refl _, Int.le_refl _⟩
  | b + 1 => by
    obtain ⟨h1, h2⟩ := pr_later hn hd hc a b
    obtain ⟨k1, k2, _⟩ := pr_bd hn hd hc (a + b)
    rw [← Nat.add_assoc]
    simp only [prL, prU]
    have a1 := dn_step hn hd k1
    have b1 := up_step hn hd (x := prU n d (a + b) c) (by omega)
    omega
theorem pr_rate {n m d c : Int} (hn : 0 ≤ n) (hm : n ≤ m) (hd : 1 ≤ d) (hc : 0 ≤ c) : ∀ y, prL m d y c ≤ prL n d y c ∧ prU m d y c ≤ prU n d y c
  | 0 => ⟨Int.le_refl _, Int.le_refl _⟩
  | y + 1 => by
    obtain ⟨h1, h2⟩ := pr_rate hn hm hd hc y
    obtain ⟨k1, k2, _⟩ := pr_bd (n := m) (by omega) hd hc y
    obtain ⟨j1, j2, _⟩ := pr_bd hn hd hc y
    simp only [prL, prU]
    have x1 := dn_den (n := prL m d y c * d) (d := d + n) (e := d + m) (by omega) (by omega) (Int.mul_nonneg k1 (by omega))
    have x2 : dn (prL m d y c * d) (d + n) ≤ dn (prL n d y c * d) (d + n) := dn_mono (by omega) (Int.mul_le_mul_of_nonneg_right h1 (by omega))
    have y1 := up_den (n := prU m d y c * d) (d := d + n) (e := d + m) (by omega) (by omega) (Int.mul_nonneg (by omega) (by omega))
    have y2 : up (prU m d y c * d) (d + n) ≤ up (prU n d y c * d) (d + n) := up_mono (by omega) (Int.mul_le_mul_of_nonneg_right h2 (by omega))
    omega
theorem pr_cost {n d c e : Int} (hn : 0 ≤ n) (hd : 1 ≤ d) (hc : 0 ≤ c) (he : c ≤ e) : ∀ y, prL n d y c ≤ prL n d y e ∧ prU n d y c ≤ prU n d y e
  | 0 => ⟨he, he⟩
  | y + 1 => by
    obtain ⟨h1, h2⟩ := pr_cost hn hd hc he y
    simp only [prL, prU]
    exact ⟨dn_mono (by omega) (Int.mul_le_mul_of_nonneg_right h1 (by omega)), up_mono (by omega) (Int.mul_le_mul_of_nonneg_right h2 (by omega))⟩
theorem pr_two {n d c : Int} (hn : 0 ≤ n) (hd : 1 ≤ d) : prL n d 2 c * ((d + n) * (d + n)) ≤ c * d * d ∧ c * d * d ≤ prU n d 2 c * ((d + n) * (d + n)) := by
  have hs : 0 < d + n := by omega
  obtain ⟨a1, _⟩ := dn_bd (n := c * d) hs
  obtain ⟨a2, _⟩ := dn_bd (n := dn (c * d) (d + n) * d) hs
  obtain ⟨b1, _⟩ := up_bd (n := c * d) hs
  obtain ⟨b2, _⟩ := up_bd (n := up (c * d) (d + n) * d) hs
  simp only [prL, prU]
  generalize hx : dn (c * d) (d + n) = x at *
  generalize hy : up (c * d) (d + n) = y at *
  generalize dn (x * d) (d + n) = u at *
  generalize up (y * d) (d + n) = v at *
  generalize d + n = s at *
  have e1 : u * s * s ≤ x * d * s := Int.mul_le_mul_of_nonneg_right a2 (by omega)
  have e2 : x * s * d ≤ c * d * d := Int.mul_le_mul_of_nonneg_right a1 (by omega)
  have e3 : y * d * s ≤ v * s * s := Int.mul_le_mul_of_nonneg_right b2 (by omega)
  have e4 : c * d * d ≤ y * s * d := Int.mul_le_mul_of_nonneg_right b1 (by omega)
  have r1 : u * (s * s) = u * s * s := (Int.mul_assoc ..).symm
  have r2 : v * (s * s) = v * s * s := (Int.mul_assoc ..).symm
  have r3 : x * d * s = x * s * d := by rw [Int.mul_assoc, Int.mul_comm d s, ← Int.mul_assoc]
  have r4 : y * d * s = y * s * d := by rw [Int.mul_assoc, Int.mul_comm d s, ← Int.mul_assoc]
  omega
/-- a present value, or the error -/
def prB (c n d y : Int) : Bool := decide (0 ≤ c) && decide (c ≤ 1125899906842624) && (decide (0 ≤ n) && decide (n ≤ 10000)) && (decide (1 ≤ d) && decide (d ≤ 10000)) && (decide (0 ≤ y) && decide (y ≤ 200))
def prE (c n d y : Int) : Int := if prB c n d y = true then 0 else 2
def prS (c n d y : Int) : Sp := if prB c n d y = true then ⟨prL n d y.toNat c, prU n d y.toNat c⟩ else Sp.zero
theorem prB_iff {c n d y : Int} : prB c n d y = true ↔ (0 ≤ c ∧ c ≤ 1125899906842624) ∧ (0 ≤ n ∧ n ≤ 10000) ∧ (1 ≤ d ∧ d ≤ 10000) ∧ 0 ≤ y ∧ y ≤ 200 := by
  simp only [prB, Bool.and_eq_true, decide_eq_true_eq]; omega
/-- a pipe that lies lower lies lower everywhere -/
theorem pip_mono {u d u' d' : Int} (hu : u' ≤ u) (hd : d' ≤ d) {k : Nat} (hk : k ≤ 16) : u' + pHi u' d' k ≤ u + pHi u d k ∧ u' + pLo u' d' k ≤ u + pLo u d k := by
  have m1 : u' * (16 - (k : Int)) ≤ u * (16 - (k : Int)) := Int.mul_le_mul_of_nonneg_right hu (by omega)
  have m2 : d' * (k : Int) ≤ d * (k : Int) := Int.mul_le_mul_of_nonneg_right hd (by omega)
  have e1 : (d - u) * (k : Int) = d * (k : Int) + u * (16 - (k : Int)) - 16 * u := by grind
  have e2 : (d' - u') * (k : Int) = d' * (k : Int) + u' * (16 - (k : Int)) - 16 * u' := by grind
  unfold pHi pLo up dn
  rw [e1, e2]
  have hxy : d' * (k : Int) + u' * (16 - (k : Int)) ≤ d * (k : Int) + u * (16 - (k : Int)) := by omega
  generalize d * (k : Int) + u * (16 - (k : Int)) = x at *
  generalize d' * (k : Int) + u' * (16 - (k : Int)) = y at *
  simp only [show ¬ ((16 : Int) < 0) by omega, if_false]
  omega
theorem cv_mono {m : Msh} {a b : Pnt} {u d u' d' : Int} (hu : u' ≤ u) (hd : d' ≤ d) {k : Nat} (hk : k ≤ 16) : cvL m a b u d k ≤ cvL m a b u' d' k ∧ cvH m a b u d k ≤ cvH m a b u' d' k := by
  obtain ⟨h1, h2⟩ := pip_mono hu hd hk
  unfold cvL cvH
  rcases tms_two k with e | e <;> rw [e] <;> omega
theorem sm_mono {m : Msh} {a b : Pnt} {u d u' d' : Int} (hu : u' ≤ u) (hd : d' ≤ d) : ∀ k : Nat, k ≤ 17 → smL m a b u d k ≤ smL m a b u' d' k ∧ smH m a b u d k ≤ smH m a b u' d' k
  | 0, _ => ⟨Int.le_refl _, Int.le_refl _⟩
  | k + 1, hk => by
    have i := sm_mono (m := m) (a := a) (b := b) hu hd k (by omega)
    have c := cv_mono (m := m) (a := a) (b := b) hu hd (k := k) (by omega)
    simp only [smL, smH]
    omega
theorem trS_lo (m : Msh) (a b : Pnt) (u d wd : Int) : (trS m a b u d wd).lo = dn (smL m a b u d 17 * ((dsS a b).lo * wd)) 32000 := rfl
theorem trS_hi (m : Msh) (a b : Pnt) (u d wd : Int) : (trS m a b u d wd).hi = up (smH m a b u d 17 * ((dsS a b).hi * wd)) 32000 := rfl
theorem trS_ok {m : Msh} (hm : vM m = true) {a b : Pnt} (ha : a.in) (hb : b.in) {u d wd : Int} (hr : rngB u d wd = true) (hl : allL m a b 17 = true) : 0 ≤ (trS m a b u d wd).lo ∧ (trS m a b u d wd).lo ≤ (trS m a b u d wd).hi := by
  obtain ⟨h1, h2, h3, h4⟩ := rngB_iff.1 hr
  obtain ⟨s1, s2, _⟩ := sm_bd hm h1 h2 hl 17 (by omega) (by omega)
  obtain ⟨d1, d2, _⟩ := dsS_bd ha hb
  have p1 : 0 ≤ (dsS a b).lo * wd := Int.mul_nonneg d1 (by omega)
  have p2 : (dsS a b).lo * wd ≤ (dsS a b).hi * wd := Int.mul_le_mul_of_nonneg_right d2 (by omega)
  have q1 : 0 ≤ smL m a b u d 17 * ((dsS a b).lo * wd) := Int.mul_nonneg s1 p1
  have q2 : smL m a b u d 17 * ((dsS a b).lo * wd) ≤ smH m a b u d 17 * ((dsS a b).hi * wd) := Int.mul_le_mul s2 p2 p1 (by omega)
  rw [trS_lo, trS_hi]
  refine ⟨dn_nn (by omega) q1, ?_⟩
  have := dn_mono (d := 32000) (by omega) q2
  have := dn_up (n := smH m a b u d 17 * ((dsS a b).hi * wd)) (d := 32000) (by omega)
  omega
theorem trS_deep {m : Msh} (hm : vM m = true) {a b : Pnt} (ha : a.in) (hb : b.in) {u d wd u' d' wd' : Int} (hr : rngB u d wd = true) (hl : allL m a b 17 = true) (hu : u' ≤ u) (hd : d' ≤ d) (hw : wd ≤ wd') :
    (trS m a b u d wd).lo ≤ (trS m a b u' d' wd').lo ∧ (trS m a b u d wd).hi ≤ (trS m a b u' d' wd').hi := by
  obtain ⟨h1, h2, h3, h4⟩ := rngB_iff.1 hr
  obtain ⟨s1, s2, _⟩ := sm_bd hm h1 h2 hl 17 (by omega) (by omega)
  obtain ⟨m1, m2⟩ := sm_mono (m := m) (a := a) (b := b) hu hd 17 (by omega)
  obtain ⟨d1, d2, _⟩ := dsS_bd ha hb
  have p1 : (dsS a b).lo * wd ≤ (dsS a b).lo * wd' := Int.mul_le_mul_of_nonneg_left hw d1
  have p2 : (dsS a b).hi * wd ≤ (dsS a b).hi * wd' := Int.mul_le_mul_of_nonneg_left hw (by omega)
  have z1 : 0 ≤ (dsS a b).lo * wd := Int.mul_nonneg d1 (by omega)
  have z2 : 0 ≤ (dsS a b).hi * wd := Int.mul_nonneg (by omega) (by omega)
  simp only [trS_lo, trS_hi]
  exact ⟨dn_mono (by omega) (Int.mul_le_mul m1 p1 z1 (by omega)), up_mono (by omega) (Int.mul_le_mul m2 p2 z2 (by omega))⟩
theorem sm_none {m : Msh} (hm : vM m = true) {a b : Pnt} {n : Nat} (h : allL m a b n = true) : ∀ k : Nat, k ≤ n → k ≤ 17 → smL m a b 4194304 4194304 k = 0 ∧ smH m a b 4194304 4194304 k = 0
  | 0, _, _ => ⟨rfl, rfl⟩
  | k + 1, hk, hk' => by
    obtain ⟨i1, i2⟩ := sm_none hm h k (by omega) (by omega)
    obtain ⟨⟨l1, l2⟩, ⟨l3, l4⟩, l5⟩ := lvG_bd hm h (k := k) (by omega)
    have e1 : pHi 4194304 4194304 k = 0 := by simp [pHi, up, dn]
    have e2 : pLo 4194304 4194304 k = 0 := by simp [pLo, dn]
    simp only [smL, smH, cvL, cvH, i1, i2, e1, e2]
    rcases tms_two k with e | e <;> rw [e] <;> omega
theorem trS_none {m : Msh} (hm : vM m = true) {a b : Pnt} (h : allL m a b 17 = true) (wd : Int) : trS m a b 4194304 4194304 wd = Sp.zero := by
  obtain ⟨i1, i2⟩ := sm_none hm h 17 (by omega) (by omega)
  simp [trS, i1, i2, Sp.zero, up, dn]
end Go.Proofs.YtbmocghfpcfmhaaGreatDoor
