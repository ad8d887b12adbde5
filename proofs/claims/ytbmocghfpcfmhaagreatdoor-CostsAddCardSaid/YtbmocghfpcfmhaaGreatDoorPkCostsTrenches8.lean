/- Parts of one proof, joined: The program's Root of wide integers, Distance of points: what each returns; nothing that was there is turned. The program's corners of a face, the place of a spot, the turn of points, and the first side of a face that a point is outside of: what each returns; nothing that was there is turned (printed by gen_lc.py). The reference's On and Face: the face of a point; nothing that was there is turned (printed by gen_tra.py). Magnitudes of two words, said of natural numbers. The reference's magnitudes of two words (sewershedref03): Size, Less, Plus, Minus, Mul, Shift: what each returns; nothing that was there is turned (printed by gen_rf3.py). -/
import Derived.Test.YtbmocghfpcfmhaaGreatDoorPkCostsTrenches7
import Derived.Test.YtbmocghfpcfmhaaGreatDoorPkCostsTrenches3
import Derived.Test.YtbmocghfpcfmhaaGreatDoorPkCostsTrenches4
import Derived.Test.YtbmocghfpcfmhaaGreatDoorPkCostsTrenches1
import Derived.Test.YtbmocghfpcfmhaaGreatDoorPkCostsTrenches2
import Derived.Test.YtbmocghfpcfmhaaGreatDoorPkCostsTrenches5
namespace Go.Proofs.YtbmocghfpcfmhaaGreatDoor
open Go Go.RowKit

theorem or_powW (m s : Nat) : m * 2 ^ (s + 1) ||| 2 ^ s = m * 2 ^ (s + 1) + 2 ^ s := by
  have h := Nat.two_pow_add_eq_or_of_lt (i := s + 1) (b := 2 ^ s) (Nat.pow_lt_pow_right (by omega) (by omega)) m
  rw [Nat.mul_comm (2 ^ (s + 1)) m] at h
  exact h.symm
def WRel (n : Nat) (r P : Nat) : Prop := ∃ s m : Nat, P = 2 ^ s ∧ s ≤ 60 ∧ r = m * 2 ^ s ∧ r + P ≤ 2 ^ 60 ∧ r * r ≤ n ∧ n < (r + P) * (r + P)
theorem wroot_start {n : Nat} (h1 : n ≤ 2251799813685248) : WRel n 0 1152921504606846976 := ⟨60, 0, by decide, by omega, by simp, by decide, by simp, by omega⟩
theorem wroot_round {n : Nat} {r P : Nat} (h : WRel n r P) (hP : 1 < P) : ∃ Q : Nat, P = 2 * Q ∧ 0 < Q ∧ (r ||| Q = r + Q) ∧ r + Q < 1152921504606846976 ∧ r < 1152921504606846976 ∧ Q < 1152921504606846976 ∧
    ((r + Q) * (r + Q) ≤ n → WRel n (r + Q) Q) ∧ (n < (r + Q) * (r + Q) → WRel n r Q) := by
  obtain ⟨s, m, e1, e2, e3, e4, e5, e6⟩ := h
  rcases s with _ | s
  · simp at e1; omega
  have hpow : 2 ^ (s + 1) = 2 * 2 ^ s := by rw [Nat.pow_succ, Nat.mul_comm]
  have hq : 0 < 2 ^ s := Nat.two_pow_pos s
  have ho := or_powW m s
  rw [← e3] at ho
  have e3' : r = 2 * m * 2 ^ s := by rw [e3, hpow, ← Nat.mul_assoc, Nat.mul_comm m 2]
  have e3'' : r + 2 ^ s = (2 * m + 1) * 2 ^ s := by rw [e3', Nat.add_mul]; omega
  refine ⟨2 ^ s, by omega, hq, ho, by omega, by omega, by omega, fun h => ⟨s, 2 * m + 1, rfl, by omega, e3'', by omega, h, ?_⟩, fun h => ⟨s, 2 * m, rfl, by omega, e3', by omega, e5, h⟩⟩
  rw [show r + 2 ^ s + 2 ^ s = r + P by omega]
  exact e6
theorem wroot_end {n : Nat} {r : Nat} (h : WRel n r 1) : isq (n : Int) = r := by
  obtain ⟨s, m, e1, e2, e3, e4, e5, e6⟩ := h
  refine isq_uniq (by omega) (by omega) ?_ ?_
  · exact_mod_cast e5
  · exact_mod_cast e6
set_option maxRecDepth 100000 in
set_option maxHeartbeats 2000000 in
theorem wsroot_any (n : Nat) (w : World) (h1 : n ≤ 2251799813685248) : Calls Tryz.prog 58 #[WV (n : Int)] w (RetW (.tuple #[.int .i64 (isq (n : Int)), .int .i64 0]) w) := by
  have hB : wideB (n : Int) := ⟨by omega, by omega⟩
  have X := (Own.start w).alloc #[.int .i64 ((n : Int) / 1152921504606846976), .int .i64 ((n : Int) % 1152921504606846976)] 84
  have V := hide (fun W => wsvalid_any (n : Int) W hB)
  have U := hide (fun W => wsvalue_any (n : Int) W hB)
  have eN : WN (n : Int) = .agg #[.int .u64 0, .int .u64 (n : Int), .bool false] := by
    rw [WN_nat]
    have k : n < 18446744073709551616 := by omega
    unfold Nv
    rw [Nat.div_eq_of_lt k, Nat.mod_eq_of_lt k]
    rfl
  rw [eN] at U
  have ST := hide (wroot_start h1)
  have HN := hide h1
  unfold RetW at V U
  unfold WV at *
  generalize (n : Int) / 1152921504606846976 = v1 at *
  generalize (n : Int) % 1152921504606846976 = v2 at *
  clear hB eN h1
  go_enter Tryz.func58, Tryz.ntmps58
  go_wp2_with fail
  refine (V.out _).mono ?_
  rintro e w1 ⟨rfl, hb⟩
  replace X := X.to hb
  clear hb
  have hr := X.r1
  go_wp2_with fail
  refine (U.out _).mono ?_
  rintro e w2 ⟨rfl, hb⟩
  replace X := (X.to hb).alloc #[.int .u64 0, .int .u64 (n : Int), .bool false] 101
  clear hb hr
  have hr := X.r2
  have XB := hide X.1
  clear X V U
  go_wp2
  go_loop [5, 6] (fun v5 v6 => ∃ r P : Nat, v5 = .int .u64 (r : Int) ∧ v6 = .int .u64 ((P / 2 : Nat) : Int) ∧ Hid (WRel n r P)) (fun _ v6 => (intOf v6).toNat)
  case atStart => exact ⟨0, 1152921504606846976, rfl, rfl, ST⟩
  case round =>
    obtain ⟨r, P, rfl, rfl, hrel⟩ := hrel
    by_cases hP : 1 < P
    · obtain ⟨Q, rfl, hQ, ho, b1, b2, b3, k1, k2⟩ := wroot_round hrel.out hP
      have HO := u64_or_nat ho (by omega) (by omega)
      have e2 : ((2 * Q / 2 : Nat) : Int) = (Q : Int) := by omega
      rw [e2]
      have e3 : (Q : Int).fdiv (2 ^ min (Int.toNat 1) IntKind.u64.bits) = ((Q / 2 : Nat) : Int) := by
        have e : (2 : Int) ^ min (Int.toNat 1) IntKind.u64.bits = 2 := by decide
        rw [e, Int.fdiv_eq_ediv_of_nonneg _ (by omega)]
        omega
      obtain ⟨x, hx⟩ : ∃ x, x = r + Q := ⟨_, rfl⟩
      rw [← hx] at b1 k1 k2 HO
      obtain ⟨hh, hhh⟩ : ∃ hh, hh = x * x / 18446744073709551616 := ⟨_, rfl⟩
      obtain ⟨ll, hll⟩ : ∃ ll, ll = x * x % 18446744073709551616 := ⟨_, rfl⟩
      have MU := hide (fun W => Tryz.bits_Mul64 x x (by omega) (by omega) W)
      rw [← hhh, ← hll] at MU
      have hn := HN.out
      have ways : (hh = 0 ∧ ll ≤ n ∧ WRel n x Q) ∨ (hh = 0 ∧ ¬ ll ≤ n ∧ WRel n r Q) ∨ (0 < hh ∧ WRel n r Q) := by
        rcases Nat.eq_zero_or_pos hh with h0 | h0
        · have el : ll = x * x := by omega
          by_cases hl : ll ≤ n
          · exact .inl ⟨h0, hl, k1 (by omega)⟩
          · exact .inr (.inl ⟨h0, hl, k2 (by omega)⟩)
        · exact .inr (.inr ⟨h0, k2 (by omega)⟩)
      clear hrel ho k1 k2 hP e2 hhh hll b1 b2 b3 hn hx
      have Q0 : (0 : Int) < (Q : Int) := by omega
      rcases ways with ⟨h0, hl, K⟩ | ⟨h0, hl, K⟩ | ⟨h0, K⟩
      · subst h0
        have d1 : decide (ll ≤ n) = true := decide_eq_true hl
        have HK := hide K
        clear K hl
        go_wp2_with fail
        refine (MU.out _).mono ?_
        rintro e w' ⟨rfl, rfl⟩
        go_wp2
        go_round
        case rel => exact ⟨x, Q, by go_num, by go_num, HK⟩
        case measure => simp [intOf]; omega
      · subst h0
        have d1 : decide (ll ≤ n) = false := decide_eq_false hl
        have HK := hide K
        clear K hl
        go_wp2_with fail
        refine (MU.out _).mono ?_
        rintro e w' ⟨rfl, rfl⟩
        go_wp2
        go_round
        case rel => exact ⟨r, Q, by go_num, by go_num, HK⟩
        case measure => simp [intOf]; omega
      · have d1 : ((hh : Int) == 0) = false := beq_eq_false_iff_ne.2 (by omega)
        have d2 : ¬ (hh : Int) < 0 := by omega
        have HK := hide K
        clear K
        go_wp2_with fail
        refine (MU.out _).mono ?_
        rintro e w' ⟨rfl, rfl⟩
        go_wp2
        go_round
        case rel => exact ⟨r, Q, by go_num, by go_num, HK⟩
        case measure => simp [intOf]; omega
    · have e : P = 1 := by
        obtain ⟨s, m, e1, _⟩ := hrel.out
        have := Nat.two_pow_pos s
        omega
      subst e
      have E := hide (wroot_end hrel.out)
      have b : r ≤ 1152921504606846976 := by
        obtain ⟨s, m, _, _, _, e4, _⟩ := hrel.out
        omega
      have E4 : IntKind.i64.wrap (r : Int) = (r : Int) := IntWalk.i64_in _ (by omega)
      clear hrel
      go_wp2
      go_ret2
      exact ⟨by rw [E.out]; rfl, XB.out⟩
end Go.Proofs.YtbmocghfpcfmhaaGreatDoor

namespace Go.Proofs.YtbmocghfpcfmhaaGreatDoor
open Go Go.RowKit

/-- the corners of a face, with their levels -/
def cnV (l : List Spt) (f : Fce) : Array Value := #[.int .i64 (spA l f.a).x, .int .i64 (spA l f.a).y, .int .i64 (spA l f.a).z, .int .i64 (spA l f.b).x, .int .i64 (spA l f.b).y, .int .i64 (spA l f.b).z, .int .i64 (spA l f.c).x, .int .i64 (spA l f.c).y, .int .i64 (spA l f.c).z]
theorem spA_nat {l : List Spt} {i : Int} (h : 0 ≤ i ∧ i < l.length) : ∃ k : Nat, ∃ hk : k < l.length, i = (k : Int) ∧ spA l i = l[k] := by
  refine ⟨i.toNat, by omega, by omega, ?_⟩
  have hk : i.toNat < l.length := by omega
  simp [spA, hk]
set_option maxRecDepth 100000 in
set_option maxHeartbeats 4000000 in
theorem lccorners_any (m : Msh) (a : MshA) (i : Nat) (w : World) (hm : MshSl w m a) (hi : i < m.fs.length) (hk : OkF m.ss m.fs[i]) :
    Calls Tryz.prog 159 #[m.val a, .int .i64 (i : Int)] w (RetW (.agg (cnV m.ss m.fs[i])) w) := by
  obtain ⟨A1, c1, A2, c2⟩ := a
  have hlen : m.ss.length ≤ 9223372036854775807 := hm.1.1.1
  have hlen2 : m.fs.length ≤ 9223372036854775807 := hm.2.1.1
  obtain ⟨ka, hka, ea, sa⟩ := spA_nat hk.a
  obtain ⟨kb, hkb, eb, sb⟩ := spA_nat hk.b
  obtain ⟨kc, hkc, ec, sc⟩ := spA_nat hk.c
  obtain ⟨b, off, e, hbl, hat⟩ := hm.1.2 (by omega)
  have e' : A1 = some ⟨b, off, none⟩ := e
  subst e'
  obtain ⟨b', off', e, hbl', hat'⟩ := hm.2.2 (by omega)
  have e' : A2 = some ⟨b', off', none⟩ := e
  subst e'
  obtain ⟨f0, f1, f2, f3⟩ := hat' i hi
  obtain ⟨x0, y0, z0⟩ := hat ka hka
  obtain ⟨x1, y1, z1⟩ := hat kb hkb
  obtain ⟨x2, y2, z2⟩ := hat kc hkc
  unfold cnV
  rw [sa, sb, sc]
  rw [ea] at f0
  rw [eb] at f1
  rw [ec] at f2
  have X := ((Own.start w).alloc #[.slice (some ⟨b, off, none⟩) m.ss.length c1, .slice (some ⟨b', off', none⟩) m.fs.length c2] 25).alloc #[.int .i64 0, .int .i64 0, .int .i64 0, .int .i64 0, .int .i64 0, .int .i64 0, .int .i64 0, .int .i64 0, .int .i64 0] 200
  replace X := X.alloc #[.int .i64 (ka : Int), .int .i64 (kb : Int), .int .i64 (kc : Int), .int .i64 (m.fs[i]).k] 62
  simp only [World.size_alloc] at X
  generalize m.ss[ka] = s0 at *
  generalize m.ss[kb] = s1 at *
  generalize m.ss[kc] = s2 at *
  generalize (m.fs[i]).k = fk at *
  have g0 : (0 : Int) ≤ (i : Int) := by omega
  have g1 : (i : Int) < (m.fs.length : Int) := by omega
  have a0 : (0 : Int) ≤ (ka : Int) := by omega
  have a1 : (ka : Int) < (m.ss.length : Int) := by omega
  have b0 : (0 : Int) ≤ (kb : Int) := by omega
  have b1 : (kb : Int) < (m.ss.length : Int) := by omega
  have q0 : (0 : Int) ≤ (kc : Int) := by omega
  have q1 : (kc : Int) < (m.ss.length : Int) := by omega
  clear hat hat' hm hk ea eb ec sa sb sc hka hkb hkc hi
  have n1 : ¬ (b' = w.heap.size) := by omega
  have n2 : ¬ (b' = w.heap.size + 1) := by omega
  have n3 : w.heap.size < w.heap.size + 1 + 1 := by omega
  have NE := ownw_ne X
  have C1 := ownw_r3 X
  have D0 := ownw_old X hbl x0
  have D1 := ownw_old X hbl y0
  have D2 := ownw_old X hbl z0
  have D3 := ownw_old X hbl x1
  have D4 := ownw_old X hbl y1
  have D5 := ownw_old X hbl z1
  have D6 := ownw_old X hbl x2
  have D7 := ownw_old X hbl y2
  have D8 := ownw_old X hbl z2
  go_enter Tryz.func159, Tryz.ntmps159
  go_wp2
  refine wp_region_own_tail (w := w) 19 (by kernel_rfl) (by kernel_rfl) X ?_
  simp only [List.take_succ_cons, List.take_zero, List.drop_succ_cons, List.drop_zero]
  repeat (go_big_quiet_step (fail))
  refine wpQuiet_nil ?_
  rintro W ⟨⟨W, HO⟩, rfl⟩
  have hr := HO.r3
  go_wp2
  refine bodyPost_ret (v := .agg #[.int .i64 s0.x, .int .i64 s0.y, .int .i64 s0.z, .int .i64 s1.x, .int .i64 s1.y, .int .i64 s1.z, .int .i64 s2.x, .int .i64 s2.y, .int .i64 s2.z]) (by simp [results, Tryz.results159, hr, go_sem]) rfl ⟨rfl, ?_⟩
  have HB := HO.1
  have hz := HB.size
  go_grown
set_option maxHeartbeats 1000000 in
theorem lcat_any (s : Spt) (w : World) : Calls Tryz.prog 161 #[s.val] w (RetW s.pt.val w) := by
  have X := ((Own.start w).alloc #[.int .i64 s.x, .int .i64 s.y, .int .i64 s.z] 60).alloc #[.int .i64 0, .int .i64 0] 27
  simp only [World.size_alloc] at X
  have hr := X.r2
  have XB := hide X.1
  show Calls _ _ _ _ (RetW (.agg #[.int .i64 s.x, .int .i64 s.y]) w)
  go_enter Tryz.func161, Tryz.ntmps161
  go_wp2
  exact bodyPost_ret (v := .agg #[.int .i64 s.x, .int .i64 s.y]) (by simp [results, Tryz.results161, go_sem]) rfl ⟨rfl, by have HX := XB.out; have hz := HX.size; go_grown⟩
set_option maxHeartbeats 1000000 in
theorem lcturn_any (a b c : Pnt) (w : World) (ha : a.in) (hb : b.in) (hc : c.in) : Calls Tryz.prog 160 #[a.val, b.val, c.val] w (RetW (.int .i64 (trn a b c)) w) := by
  have X := (((Own.start w).alloc #[.int .i64 a.x, .int .i64 a.y] 27).alloc #[.int .i64 b.x, .int .i64 b.y] 27).alloc #[.int .i64 c.x, .int .i64 c.y] 27
  simp only [World.size_alloc] at X
  have hr := X.r3
  have XB := hide X.1
  obtain ⟨m1, m2⟩ := trn_bd ha hb hc
  obtain ⟨⟨a1, a2⟩, a3, a4⟩ := ha
  obtain ⟨⟨b1, b2⟩, b3, b4⟩ := hb
  obtain ⟨⟨c1, c2⟩, c3, c4⟩ := hc
  have E : Hid (trn a b c = (b.x - a.x) * (c.y - a.y) - (b.y - a.y) * (c.x - a.x)) := hide rfl
  generalize trn a b c = t at *
  have e1 := IntWalk.i64_in (b.x - a.x) (by omega)
  have e2 := IntWalk.i64_in (c.y - a.y) (by omega)
  have e3 := IntWalk.i64_in (b.y - a.y) (by omega)
  have e4 := IntWalk.i64_in (c.x - a.x) (by omega)
  obtain ⟨p, hp⟩ : ∃ p, p = (b.x - a.x) * (c.y - a.y) := ⟨_, rfl⟩
  obtain ⟨q, hq⟩ : ∃ q, q = (b.y - a.y) * (c.x - a.x) := ⟨_, rfl⟩
  rw [← hp, ← hq] at E
  rw [← hp] at m1
  rw [← hq] at m2
  have w1 : IntKind.i64.wrap ((b.x - a.x) * (c.y - a.y)) = p := by rw [← hp]; exact IntWalk.i64_in _ (by omega)
  have w2 : IntKind.i64.wrap ((b.y - a.y) * (c.x - a.x)) = q := by rw [← hq]; exact IntWalk.i64_in _ (by omega)
  have w3 := IntWalk.i64_in (p - q) (by omega)
  clear hp hq X
  go_enter Tryz.func160, Tryz.ntmps160
  go_wp2
  go_ret
  exact ⟨by rw [E.out]; rfl, XB.out⟩
end Go.Proofs.YtbmocghfpcfmhaaGreatDoor

namespace Go.Proofs.YtbmocghfpcfmhaaGreatDoor
open Go Go.RowKit

/-- the turns at the sides of a triangle -/
def tnS (t : Tri) (p : Pnt) : Nat → Int
  | 0 => trn t.p t.q p
  | 1 => trn t.q t.r p
  | _ => trn t.r t.p p
theorem onB_no {t : Tri} {p : Pnt} {k : Nat} (hk : k < 3) (h : tnS t p k < 0) : onB t p = false := by
  have hk : k = 0 ∨ k = 1 ∨ k = 2 := by omega
  unfold onB
  rcases hk with rfl | rfl | rfl <;> simp only [tnS] at h
  · rw [decide_eq_false (p := 0 ≤ trn t.p t.q p) (by omega)]; simp
  · rw [decide_eq_false (p := 0 ≤ trn t.q t.r p) (by omega)]; simp
  · rw [decide_eq_false (p := 0 ≤ trn t.r t.p p) (by omega)]; simp
theorem onB_yes {t : Tri} {p : Pnt} (h : ∀ k, k < 3 → ¬ tnS t p k < 0) : onB t p = true := by
  have h0 := h 0 (by omega)
  have h1 := h 1 (by omega)
  have h2 := h 2 (by omega)
  simp only [tnS] at h0 h1 h2
  simp only [onB, Bool.and_eq_true, decide_eq_true_eq]
  omega
set_option maxRecDepth 100000 in
set_option maxHeartbeats 4000000 in
theorem mron_any (m : Msh) (a : MshA) (i : Nat) (p : Pnt) (w : World) (hm : MshSl w m a) (hi : i < m.fs.length) (hk : OkF m.ss m.fs[i]) (hp : p.in) :
    Calls Tryz.prog 115 #[m.val a, .int .i64 (i : Int), p.val] w (RetW (.bool (onB (triA m.ss m.fs[i]) p)) w) := by
  obtain ⟨ss, fs⟩ := m
  obtain ⟨A1, c1, A2, c2⟩ := a
  have hi' : i < fs.length := hi
  obtain ⟨b, off, eA, hbl, hat⟩ := hm.2.2 (by show 0 < fs.length; omega)
  obtain rfl : A2 = some ⟨b, off, none⟩ := eA
  obtain ⟨f0, f1, f2, f3⟩ := hat i hi'
  obtain ⟨ka, hka, ea, -⟩ := spA_nat hk.a
  obtain ⟨kb, hkb, eb, -⟩ := spA_nat hk.b
  obtain ⟨kc, hkc, ec, -⟩ := spA_nat hk.c
  have HM := hide hm
  have hlen : fs.length ≤ 9223372036854775807 := hm.2.1.1
  have HT := hide hk.i
  obtain ⟨T, hT⟩ : ∃ T, T = triA ss fs[i] := ⟨_, rfl⟩
  have ef : fs[i] = ⟨ka, kb, kc, fs[i].k⟩ := by
    have h0 : fs[i] = ⟨fs[i].a, fs[i].b, fs[i].c, fs[i].k⟩ := rfl
    rw [h0]; congr
  have TR := hide (fun W h => mrtri_any ⟨ss, fs⟩ ⟨A1, c1, some ⟨b, off, none⟩, c2⟩ ka kb kc fs[i].k W h hka hkb hkc)
  have eT2 : triA ss ⟨ka, kb, kc, fs[i].k⟩ = T := by rw [hT, ← ef]
  have eT3 : triA (Msh.mk ss fs).ss ((Msh.mk ss fs).fs[i]) = T := by rw [hT]
  simp only [eT2] at TR
  rw [eT3] at HT ⊢
  unfold TriPost at TR
  have TN := hide (fun W (u v : Pnt) (hu : u.in) (hv : v.in) => mrturn_any u v p W hu hv hp)
  unfold RetW at TN
  have YES := hide (fun h => onB_yes (t := T) (p := p) h)
  have NO := hide (fun k hk h => onB_no (t := T) (p := p) (k := k) hk h)
  have f0 : w.cell? ⟨b, off + i * 4, none⟩ = some (.int .i64 (ka : Int)) := by rw [f0]; congr
  have f1 : w.cell? ⟨b, off + i * 4 + 1, none⟩ = some (.int .i64 (kb : Int)) := by rw [f1]; congr
  have f2 : w.cell? ⟨b, off + i * 4 + 2, none⟩ = some (.int .i64 (kc : Int)) := by rw [f2]; congr
  have f3 : w.cell? ⟨b, off + i * 4 + 3, none⟩ = some (.int .i64 fs[i].k) := f3
  generalize fs[i].k = fk at *
  generalize onB T p = ans at *
  have X := ((Own.start w).alloc #[.slice A1 ss.length c1, .slice (some ⟨b, off, none⟩) fs.length c2] 25).alloc #[.int .i64 p.x, .int .i64 p.y] 27
  simp only [World.size_alloc] at X
  have KF := hide (fun W (h : Below w.heap.size w W) => And.intro ((h.cell (p := ⟨b, _, none⟩) hbl).trans f0) (And.intro ((h.cell (p := ⟨b, _, none⟩) hbl).trans f1) (And.intro ((h.cell (p := ⟨b, _, none⟩) hbl).trans f2) ((h.cell (p := ⟨b, _, none⟩) hbl).trans f3))))
  have g0 : (0 : Int) ≤ (i : Int) := by omega
  have g1 : (i : Int) < (fs.length : Int) := by omega
  show Calls _ _ #[.agg #[.slice A1 ss.length c1, .slice (some ⟨b, off, none⟩) fs.length c2], _, _] w _
  clear hat hm hi hk ea eb ec hT ef eT2 eT3 f0 f1 f2 f3 hp
  go_enter Tryz.func115, Tryz.ntmps115
  go_wp2
  generalize (w.alloc (.cells #[.slice A1 ss.length c1, .slice (some ⟨b, off, none⟩) fs.length c2] 25)).alloc (.cells #[.int .i64 p.x, .int .i64 p.y] 27) = W0 at *
  have hr := X.r2
  obtain ⟨f0, f1, f2, f3⟩ := KF.out _ X.1
  have TR2 := hide (fun W (h : Below W0.heap.size W0 W) => TR.out W (HM.out.below (below_via X.1 X.1.size h)))
  have HX := hide X
  clear X
  go_region_held3 (fun w' => w'.cell? ⟨w.heap.size, 0, none⟩ = some (.slice A1 ss.length c1) ∧ w'.cell? ⟨w.heap.size, 1, none⟩ = some (.slice (some ⟨b, off, none⟩) fs.length c2) ∧ w'.cell? ⟨b, off + i * 4, none⟩ = some (.int .i64 ka) ∧ w'.cell? ⟨b, off + i * 4 + 1, none⟩ = some (.int .i64 kb) ∧ w'.cell? ⟨b, off + i * 4 + 2, none⟩ = some (.int .i64 kc) ∧ w'.cell? ⟨b, off + i * 4 + 3, none⟩ = some (.int .i64 fk)) (go_keep)
    (first
      | (go_at_call 124; ((with_reducible refine Calls.mono (TR2.out _ (by go_grown)) ?_); rintro e w1 ⟨g, rfl, hB, -, hb⟩); have hw := below_go (show Below W0.heap.size W0 _ from by go_grown) hb; have HZ := hide ((HX.out.to hw).cons hB); obtain ⟨f0, f1, f2, f3⟩ := KF.out _ HZ.out.1; have hr2 := HZ.out.r3; clear hb hB hw))
  replace HX := HZ
  clear hr2
  clear hr f0 f1 f2 f3 TR KF
  go_wp2
  go_loopw [8] (fun v8 wr => ∃ k : Nat, k ≤ 3 ∧ v8 = .int .i64 k ∧ Hid (Own w wr [(g, 27, #[.int .i64 T.p.x, .int .i64 T.p.y, .int .i64 T.q.x, .int .i64 T.q.y, .int .i64 T.r.x, .int .i64 T.r.y]), (w.heap.size + 1, 27, #[.int .i64 p.x, .int .i64 p.y]), (w.heap.size, 25, #[.slice A1 ss.length c1, .slice (some ⟨b, off, none⟩) fs.length c2])]) ∧ Hid (∀ j, j < k → ¬ tnS T p j < 0)) (fun v8 _ => 3 - (intOf v8).toNat)
  case atStart => exact ⟨0, by omega, rfl, HX, hide (fun j hj => by omega)⟩
  case round =>
    obtain ⟨k, hk, rfl, HO, HN⟩ := hrel
    by_cases h3 : k = 3
    · subst h3
      have E := hide (YES.out (fun j hj => by have := HN.out j hj; omega))
      have XB := hide HO.out.1
      clear HO
      go_wp2
      go_ret
      exact ⟨ret_bool E.out.symm, XB.out⟩
    have hr := HO.out.r3
    have NE := ownw_ne HO.out
    have C1 := ownw_r3 HO.out
    obtain rfl | rfl | rfl : k = 0 ∨ k = 1 ∨ k = 2 := by omega
    · have Tk : ∀ W : World, Calls Tryz.prog 125 #[.agg #[.int .i64 T.p.x, .int .i64 T.p.y], .agg #[.int .i64 T.q.x, .int .i64 T.q.y], .agg #[.int .i64 p.x, .int .i64 p.y]] W fun e w' => e = .returned (.int .i64 (tnS T p 0)) ∧ Below W.heap.size W w' := fun W => TN.out W T.p T.q HT.out.1 HT.out.2.1
      replace Tk := hide Tk
      have HNK := hide (fun (h : ¬ tnS T p 0 < 0) j (hj : j < 0 + 1) => (show ¬ tnS T p j < 0 by
        by_cases e : j = 0
        · subst e; exact h
        · exact HN.out j (by omega)))
      have NOK := hide (NO.out 0 (by omega))
      have s1 : IntKind.i64.wrap 1 = 1 := by decide
      have s2 : (1 : Int).tmod 3 = 1 := by decide
      clear HN NO YES TN
      generalize tnS T p 0 = n at *
      go_upto_region 5 with (fail)
      refine wp_region_own (w := w) (L := [(g, 27, #[.int .i64 T.p.x, .int .i64 T.p.y, .int .i64 T.q.x, .int .i64 T.q.y, .int .i64 T.r.x, .int .i64 T.r.y]), (w.heap.size + 1, 27, #[.int .i64 p.x, .int .i64 p.y]), (w.heap.size, 25, #[.slice A1 ss.length c1, .slice (some ⟨b, off, none⟩) fs.length c2])]) (by kernel_rfl) (by kernel_rfl) HO.out ?_
      repeat (go_big_quiet_step ((rename_i x; first | with_reducible exact own_call (Tk.out _))))
      refine wpQuiet_nil ?_
      rintro W ⟨⟨W, HX⟩, rfl⟩
      have HY := hide HX
      clear HX HO hr NE C1
      by_cases hn : n < 0
      · have E := hide (NOK.out hn)
        have XB := hide HY.out.1
        clear HY
        go_wp2
        go_ret
        exact ⟨ret_bool E.out.symm, XB.out⟩
      · have HN2 := hide (HNK.out hn)
        clear HNK NOK
        go_wp2
        go_roundw
        case rel => exact ⟨0 + 1, by omega, by go_num, HY, HN2⟩
        case measure => simp [intOf]
    · have Tk : ∀ W : World, Calls Tryz.prog 125 #[.agg #[.int .i64 T.q.x, .int .i64 T.q.y], .agg #[.int .i64 T.r.x, .int .i64 T.r.y], .agg #[.int .i64 p.x, .int .i64 p.y]] W fun e w' => e = .returned (.int .i64 (tnS T p 1)) ∧ Below W.heap.size W w' := fun W => TN.out W T.q T.r HT.out.2.1 HT.out.2.2
      replace Tk := hide Tk
      have HNK := hide (fun (h : ¬ tnS T p 1 < 0) j (hj : j < 1 + 1) => (show ¬ tnS T p j < 0 by
        by_cases e : j = 1
        · subst e; exact h
        · exact HN.out j (by omega)))
      have NOK := hide (NO.out 1 (by omega))
      have s1 : IntKind.i64.wrap 2 = 2 := by decide
      have s2 : (2 : Int).tmod 3 = 2 := by decide
      clear HN NO YES TN
      generalize tnS T p 1 = n at *
      go_upto_region 5 with (fail)
      refine wp_region_own (w := w) (L := [(g, 27, #[.int .i64 T.p.x, .int .i64 T.p.y, .int .i64 T.q.x, .int .i64 T.q.y, .int .i64 T.r.x, .int .i64 T.r.y]), (w.heap.size + 1, 27, #[.int .i64 p.x, .int .i64 p.y]), (w.heap.size, 25, #[.slice A1 ss.length c1, .slice (some ⟨b, off, none⟩) fs.length c2])]) (by kernel_rfl) (by kernel_rfl) HO.out ?_
      repeat (go_big_quiet_step ((rename_i x; first | with_reducible exact own_call (Tk.out _))))
      refine wpQuiet_nil ?_
      rintro W ⟨⟨W, HX⟩, rfl⟩
      have HY := hide HX
      clear HX HO hr NE C1
      by_cases hn : n < 0
      · have E := hide (NOK.out hn)
        have XB := hide HY.out.1
        clear HY
        go_wp2
        go_ret
        exact ⟨ret_bool E.out.symm, XB.out⟩
      · have HN2 := hide (HNK.out hn)
        clear HNK NOK
        go_wp2
        go_roundw
        case rel => exact ⟨1 + 1, by omega, by go_num, HY, HN2⟩
        case measure => simp [intOf]
    · have Tk : ∀ W : World, Calls Tryz.prog 125 #[.agg #[.int .i64 T.r.x, .int .i64 T.r.y], .agg #[.int .i64 T.p.x, .int .i64 T.p.y], .agg #[.int .i64 p.x, .int .i64 p.y]] W fun e w' => e = .returned (.int .i64 (tnS T p 2)) ∧ Below W.heap.size W w' := fun W => TN.out W T.r T.p HT.out.2.2 HT.out.1
      replace Tk := hide Tk
      have HNK := hide (fun (h : ¬ tnS T p 2 < 0) j (hj : j < 2 + 1) => (show ¬ tnS T p j < 0 by
        by_cases e : j = 2
        · subst e; exact h
        · exact HN.out j (by omega)))
      have NOK := hide (NO.out 2 (by omega))
      have s1 : IntKind.i64.wrap 3 = 3 := by decide
      have s2 : (3 : Int).tmod 3 = 0 := by decide
      clear HN NO YES TN
      generalize tnS T p 2 = n at *
      go_upto_region 5 with (fail)
      refine wp_region_own (w := w) (L := [(g, 27, #[.int .i64 T.p.x, .int .i64 T.p.y, .int .i64 T.q.x, .int .i64 T.q.y, .int .i64 T.r.x, .int .i64 T.r.y]), (w.heap.size + 1, 27, #[.int .i64 p.x, .int .i64 p.y]), (w.heap.size, 25, #[.slice A1 ss.length c1, .slice (some ⟨b, off, none⟩) fs.length c2])]) (by kernel_rfl) (by kernel_rfl) HO.out ?_
      repeat (go_big_quiet_step ((rename_i x; first | with_reducible exact own_call (Tk.out _))))
      refine wpQuiet_nil ?_
      rintro W ⟨⟨W, HX⟩, rfl⟩
      have HY := hide HX
      clear HX HO hr NE C1
      by_cases hn : n < 0
      · have E := hide (NOK.out hn)
        have XB := hide HY.out.1
        clear HY
        go_wp2
        go_ret
        exact ⟨ret_bool E.out.symm, XB.out⟩
      · have HN2 := hide (HNK.out hn)
        clear HNK NOK
        go_wp2
        go_roundw
        case rel => exact ⟨2 + 1, by omega, by go_num, HY, HN2⟩
        case measure => simp [intOf]
def fdI2 (o : Option Nat) : Int := match o with | some i => (i : Int) | none => -1
set_option maxRecDepth 100000 in
set_option maxHeartbeats 2000000 in
theorem mrface_any (m : Msh) (a : MshA) (p : Pnt) (w : World) (hm : MshSl w m a) (hv : vM m = true) (hp : p.in) :
    Calls Tryz.prog 64 #[m.val a, p.val] w (RetW (.int .i64 (fdI2 (fdA m p))) w) := by
  have HM := hide hm
  have OT := hide (fun W h k (hk : k < m.fs.length) => mron_any m a k p W h hk (okF_of hv hk) hp)
  have hlen : m.fs.length ≤ 9223372036854775807 := hm.2.1.1
  unfold RetW at OT
  obtain ⟨R, hR⟩ : ∃ R : Int, R = fdI2 (fdA m p) := ⟨_, rfl⟩
  rw [← hR]
  replace hR := hide hR
  obtain ⟨A1, c1, A2, c2⟩ := a
  have X := ((Own.start w).alloc #[.slice A1 m.ss.length c1, .slice A2 m.fs.length c2] 25).alloc #[.int .i64 p.x, .int .i64 p.y] 27
  simp only [World.size_alloc] at X
  have hr := X.r2
  clear hm hv hp
  go_enter Tryz.func64, Tryz.ntmps64
  go_wp2
  go_loopw [5] (fun v5 wr => ∃ k : Nat, k ≤ m.fs.length ∧ v5 = .int .i64 k ∧ Hid (Own w wr [(w.heap.size + 1, 27, #[.int .i64 p.x, .int .i64 p.y]), (w.heap.size, 25, #[.slice A1 m.ss.length c1, .slice A2 m.fs.length c2])]) ∧ Hid (∀ j (hj : j < m.fs.length), j < k → onB (triA m.ss m.fs[j]) p = false)) (fun v _ => m.fs.length - (intOf v).toNat)
  case atStart => exact ⟨0, by omega, rfl, hide X, hide (fun _ _ h => by omega)⟩
  case round =>
    obtain ⟨k, hk, rfl, HX, HN⟩ := hrel
    have hr := HX.out.r2
    by_cases hlt : k < m.fs.length
    · have g1 : decide (k < m.fs.length) = true := decide_eq_true hlt
      have OK := hide (fun W h => OT.out W h k hlt)
      have EN := hide (fun (h : onB (triA m.ss m.fs[k]) p = false) j (hj : j < m.fs.length) (hjk : j < k + 1) => (show onB (triA m.ss m.fs[j]) p = false by
        by_cases e : j = k
        · subst e; exact h
        · exact HN.out j hj (by omega)))
      have EY := hide (fun (h : onB (triA m.ss m.fs[k]) p = true) => (show R = (k : Int) by rw [hR.out, fdA_some.2 ⟨hlt, h, fun j hj hjk => HN.out j hj hjk⟩]; rfl))
      generalize onB (triA m.ss m.fs[k]) p = ob at *
      go_wp2_with fail
      refine (OK.out _ (HM.out.below HX.out.1)).mono ?_
      rintro e w1 ⟨rfl, hb⟩
      replace HX := hide (HX.out.to hb)
      clear hb hr
      cases ob
      · have ER := hide (EN.out rfl)
        clear EN EY
        go_wp2
        go_roundw
        case rel => exact ⟨k + 1, by omega, by go_num, HX, ER⟩
        case measure => simp [intOf]; omega
      · have ER := hide (EY.out rfl)
        clear EN EY
        go_wp2
        go_ret
        exact ⟨ret_int ER.out.symm, HX.out.1⟩
    · have ER : Hid (R = -1) := hide (by rw [hR.out, fdA_none.2 (fun j hj => HN.out j hj (by omega))]; rfl)
      have g1 : decide (k < m.fs.length) = false := decide_eq_false hlt
      go_wp2
      go_ret
      exact ⟨ret_int ER.out.symm, HX.out.1⟩
end Go.Proofs.YtbmocghfpcfmhaaGreatDoor

namespace Go.Proofs.YtbmocghfpcfmhaaGreatDoor
open Go.RowKit

/-- a magnitude as a value: its high word and its low word -/
abbrev Uv (x : Nat) : Value := .agg #[.int .u64 ((x / 18446744073709551616 : Nat) : Int), .int .u64 ((x % 18446744073709551616 : Nat) : Int)]
abbrev U2 : Nat := 340282366920938463463374607431768211456
theorem words_lt {x : Nat} (h : x < 340282366920938463463374607431768211456) : x / 18446744073709551616 < 18446744073709551616 ∧ x % 18446744073709551616 < 18446744073709551616 ∧ x = x / 18446744073709551616 * 18446744073709551616 + x % 18446744073709551616 := by omega
theorem words_of {h l : Nat} (hl : l < 18446744073709551616) : (h * 18446744073709551616 + l) / 18446744073709551616 = h ∧ (h * 18446744073709551616 + l) % 18446744073709551616 = l := by omega
theorem mul_words {a b : Nat} (ha : a < 18446744073709551616) (hb : b < 18446744073709551616) :
    ∃ ah al bh bl p q r s mid oth H L : Nat, ah = a / 4294967296 ∧ al = a % 4294967296 ∧ bh = b / 4294967296 ∧ bl = b % 4294967296 ∧ s = al * bl ∧ q = ah * bl ∧ mid = q + s / 4294967296 ∧ r = al * bh ∧ oth = r + mid % 4294967296 ∧ p = ah * bh ∧
      H = p + mid / 4294967296 + oth / 4294967296 ∧ L = oth * 4294967296 % 18446744073709551616 + s % 4294967296 ∧ H * 18446744073709551616 + L = a * b ∧
      s < 18446744073709551616 ∧ q < 18446744073709551616 ∧ mid < 18446744073709551616 ∧ r < 18446744073709551616 ∧ oth < 18446744073709551616 ∧ p < 18446744073709551616 ∧ p + mid / 4294967296 < 18446744073709551616 ∧ H < 18446744073709551616 ∧ L < 18446744073709551616 := by
  have h1 : a = a / 4294967296 * 4294967296 + a % 4294967296 := by omega
  have h2 : b = b / 4294967296 * 4294967296 + b % 4294967296 := by omega
  have a1 : a / 4294967296 ≤ 4294967295 := by omega
  have a2 : a % 4294967296 ≤ 4294967295 := by omega
  have b1 : b / 4294967296 ≤ 4294967295 := by omega
  have b2 : b % 4294967296 ≤ 4294967295 := by omega
  have m1 := Nat.mul_le_mul a1 b1
  have m2 := Nat.mul_le_mul a1 b2
  have m3 := Nat.mul_le_mul a2 b1
  have m4 := Nat.mul_le_mul a2 b2
  have e : a * b = a / 4294967296 * (b / 4294967296) * 18446744073709551616 + (a / 4294967296 * (b % 4294967296) + a % 4294967296 * (b / 4294967296)) * 4294967296 + a % 4294967296 * (b % 4294967296) := by
    generalize a / 4294967296 = x at *
    generalize a % 4294967296 = y at *
    generalize b / 4294967296 = z at *
    generalize b % 4294967296 = t at *
    rw [h1, h2]; grind
  refine ⟨_, _, _, _, _, _, _, _, _, _, _, _, rfl, rfl, rfl, rfl, rfl, rfl, rfl, rfl, rfl, rfl, rfl, rfl, ?_⟩
  generalize a / 4294967296 * (b / 4294967296) = p at *
  generalize a / 4294967296 * (b % 4294967296) = q at *
  generalize a % 4294967296 * (b / 4294967296) = r at *
  generalize a % 4294967296 * (b % 4294967296) = s at *
  generalize a * b = z at *
  omega
/-- what the long division holds behind i rounds: of a, by b -/
structure DivRel (a b i : Nat) (x q r : Nat) : Prop where
  ex : x = a * 2 ^ i % 340282366920938463463374607431768211456
  eq : q = a * 2 ^ i / 340282366920938463463374607431768211456 / b
  er : r = a * 2 ^ i / 340282366920938463463374607431768211456 % b
theorem DivRel.start {a b : Nat} (ha : a < 340282366920938463463374607431768211456) (_hb : 0 < b) : DivRel a b 0 a 0 0 := by
  constructor <;> simp [Nat.div_eq_of_lt ha, Nat.mod_eq_of_lt ha]
theorem DivRel.fin {a b x q r : Nat} (h : DivRel a b 128 x q r) : q = a / b ∧ r = a % b := by
  have e : a * 2 ^ 128 / 340282366920938463463374607431768211456 = a := Nat.mul_div_cancel a (by omega)
  exact ⟨by rw [h.eq, e], by rw [h.er, e]⟩
theorem DivRel.bd {a b i x q r : Nat} (h : DivRel a b i x q r) (ha : a < 340282366920938463463374607431768211456) (hb : 0 < b) :
    x < 340282366920938463463374607431768211456 ∧ r < b ∧ q < 2 ^ i := by
  refine ⟨by rw [h.ex]; exact Nat.mod_lt _ (by omega), by rw [h.er]; exact Nat.mod_lt _ hb, ?_⟩
  rw [h.eq]
  have : a * 2 ^ i / 340282366920938463463374607431768211456 < 2 ^ i := by
    rw [Nat.div_lt_iff_lt_mul (by omega), Nat.mul_comm]
    exact Nat.mul_lt_mul_of_pos_left ha (Nat.two_pow_pos i)
  exact Nat.lt_of_le_of_lt (Nat.div_le_self _ _) this
/-- the next round: the bit that comes in, and whether b is taken away -/
theorem DivRel.next {a b i x q r : Nat} (h : DivRel a b i x q r) (hb : 0 < b) :
    DivRel a b (i + 1) (x * 2 % 340282366920938463463374607431768211456) (if b ≤ r * 2 + x / 170141183460469231731687303715884105728 then q * 2 + 1 else q * 2)
      (if b ≤ r * 2 + x / 170141183460469231731687303715884105728 then r * 2 + x / 170141183460469231731687303715884105728 - b else r * 2 + x / 170141183460469231731687303715884105728) := by
  obtain ⟨ex, eq, er⟩ := h
  have hx : a * 2 ^ (i + 1) = a * 2 ^ i * 2 := by rw [Nat.pow_succ, Nat.mul_assoc]
  generalize a * 2 ^ i = A at *
  have t : a * 2 ^ (i + 1) / 340282366920938463463374607431768211456 = A / 340282366920938463463374607431768211456 * 2 + x / 170141183460469231731687303715884105728 := by rw [hx]; omega
  have hr : r < b := by rw [er]; exact Nat.mod_lt _ hb
  have hq : A / 340282366920938463463374607431768211456 = b * q + r := by rw [eq, er]; exact (Nat.div_add_mod _ _).symm
  have hbit : x / 170141183460469231731687303715884105728 ≤ 1 := by omega
  generalize x / 170141183460469231731687303715884105728 = bit at *
  refine ⟨by rw [hx]; omega, ?_, ?_⟩
  · rw [t, hq]
    split
    · have e : (b * q + r) * 2 + bit = (r * 2 + bit - b) + b * (q * 2 + 1) := by
        have : b * (q * 2 + 1) = b * q * 2 + b := by grind
        omega
      rw [e, Nat.add_mul_div_left _ _ hb, Nat.div_eq_of_lt (by omega)]; omega
    · have e : (b * q + r) * 2 + bit = (r * 2 + bit) + b * (q * 2) := by
        have : b * (q * 2) = b * q * 2 := by grind
        omega
      rw [e, Nat.add_mul_div_left _ _ hb, Nat.div_eq_of_lt (by omega)]; omega
  · rw [t, hq]
    split
    · have e : (b * q + r) * 2 + bit = (r * 2 + bit - b) + b * (q * 2 + 1) := by
        have : b * (q * 2 + 1) = b * q * 2 + b := by grind
        omega
      rw [e, Nat.add_mul_mod_self_left, Nat.mod_eq_of_lt (by omega)]
    · have e : (b * q + r) * 2 + bit = (r * 2 + bit) + b * (q * 2) := by
        have : b * (q * 2) = b * q * 2 := by grind
        omega
      rw [e, Nat.add_mul_mod_self_left, Nat.mod_eq_of_lt (by omega)]
end Go.Proofs.YtbmocghfpcfmhaaGreatDoor

namespace Go.Proofs.YtbmocghfpcfmhaaGreatDoor
open Go.RowKit

abbrev Ud (h l : Nat) : Value := .agg #[.int .u64 (h : Int), .int .u64 (l : Int)]
/-- two words are a magnitude -/
def Wd (h l x : Nat) : Prop := h < 18446744073709551616 ∧ l < 18446744073709551616 ∧ h * 18446744073709551616 + l = x
set_option maxHeartbeats 400000 in
theorem r3size_any (n : Int) (m : Nat) (w : World) (h : n.natAbs = m) (hm : m ≤ 9223372036854775808) :
    Calls Tryz.prog 122 #[.int .i64 n] w fun e w' => e = .returned (.int .u64 (m : Int)) ∧ w = w' := by
  by_cases hn : n < 0
  · obtain ⟨k, hk⟩ : ∃ k : Nat, k = 18446744073709551616 - m := ⟨_, rfl⟩
    have e1 : IntKind.u64.wrap n = (k : Int) := by rw [IntKind.wrap_u64]; omega
    have e2 : IntKind.u64.wrap (0 - (k : Int)) = (m : Int) := by rw [IntKind.wrap_u64]; omega
    have e3 : IntKind.u64.wrap (-(k : Int)) = (m : Int) := by rw [IntKind.wrap_u64]; omega
    clear h hm hk
    go_enter Tryz.func122, Tryz.ntmps122
    go_wp2
    go_ret
    exact ⟨ret_int rfl, rfl⟩
  · have e1 : IntKind.u64.wrap n = (m : Int) := by rw [IntKind.wrap_u64]; omega
    clear h hm
    go_enter Tryz.func122, Tryz.ntmps122
    go_wp2
    go_ret
    exact ⟨ret_int rfl, rfl⟩
set_option maxHeartbeats 400000 in
theorem r3less_any (a b c d : Nat) (w : World) (hb : b < 18446744073709551616) (hd : d < 18446744073709551616) :
    Calls Tryz.prog 117 #[Ud a b, Ud c d] w fun e w' => e = .returned (.bool (decide (a * 18446744073709551616 + b < c * 18446744073709551616 + d))) ∧ Below w.heap.size w w' := by
  have X := ((Own.start w).alloc #[.int .u64 (a : Int), .int .u64 (b : Int)] 109).alloc #[.int .u64 (c : Int), .int .u64 (d : Int)] 109
  simp only [World.size_alloc] at X
  have hr := X.r2
  have t : (a : Int) < c ∨ (a = c ∧ (b : Int) < d) ∨ (a = c ∧ ¬ (b : Int) < d) ∨ (c < a) := by omega
  rcases t with t | ⟨rfl, t⟩ | ⟨rfl, t⟩ | t
  · have V := hide (show decide (a * 18446744073709551616 + b < c * 18446744073709551616 + d) = true from decide_eq_true (by omega))
    go_enter Tryz.func117, Tryz.ntmps117
    go_wp2
    go_ret
    exact ⟨ret_bool V.out.symm, by have HX := X.1; have hz := HX.size; go_grown⟩
  · have V := hide (show decide (a * 18446744073709551616 + b < a * 18446744073709551616 + d) = true from decide_eq_true (by omega))
    go_enter Tryz.func117, Tryz.ntmps117
    go_wp2
    go_ret
    exact ⟨ret_bool (by first | (rw [V.out]; done) | (simp; omega)), by have HX := X.1; have hz := HX.size; go_grown⟩
  · have V := hide (show decide (a * 18446744073709551616 + b < a * 18446744073709551616 + d) = false from decide_eq_false (by omega))
    go_enter Tryz.func117, Tryz.ntmps117
    go_wp2
    go_ret
    exact ⟨ret_bool (by first | (rw [V.out]; done) | (simp; omega)), by have HX := X.1; have hz := HX.size; go_grown⟩
  · have V := hide (show decide (a * 18446744073709551616 + b < c * 18446744073709551616 + d) = false from decide_eq_false (by omega))
    have q1 : ((a : Int) == (c : Int)) = false := by simp; omega
    have q2 : ¬ (a : Int) < (c : Int) := by omega
    go_enter Tryz.func117, Tryz.ntmps117
    go_wp2
    go_ret
    exact ⟨ret_bool (by first | (rw [V.out]; done) | (simp; omega)), by have HX := X.1; have hz := HX.size; go_grown⟩
set_option maxHeartbeats 400000 in
theorem r3plus_any (a b c d : Nat) (w : World) (hb : b < 18446744073709551616) (hd : d < 18446744073709551616) :
    Calls Tryz.prog 120 #[Ud a b, Ud c d] w fun e w' => (∃ h l : Nat, e = .returned (Ud h l) ∧ Wd h l ((a * 18446744073709551616 + b + (c * 18446744073709551616 + d)) % 340282366920938463463374607431768211456)) ∧ Below w.heap.size w w' := by
  have X := (((Own.start w).alloc #[.int .u64 (a : Int), .int .u64 (b : Int)] 109).alloc #[.int .u64 (c : Int), .int .u64 (d : Int)] 109).alloc #[.int .u64 0, .int .u64 0] 109
  simp only [World.size_alloc] at X
  have hr := X.r3
  obtain ⟨l, hl⟩ : ∃ l : Nat, l = (b + d) % 18446744073709551616 := ⟨_, rfl⟩
  obtain ⟨p, hp⟩ : ∃ p : Nat, p = (a + c) % 18446744073709551616 := ⟨_, rfl⟩
  obtain ⟨h, hh⟩ : ∃ h : Nat, h = (a + c + 1) % 18446744073709551616 := ⟨_, rfl⟩
  have e1 : IntKind.u64.wrap ((b : Int) + (d : Int)) = (l : Int) := e_add hl
  have e2 : IntKind.u64.wrap ((a : Int) + (c : Int)) = (p : Int) := e_add hp
  have e3 : IntKind.u64.wrap ((p : Int) + 1) = (h : Int) := e_add (y := 1) (by omega)
  by_cases t : (l : Int) < (b : Int)
  · have V := hide (show Wd h l ((a * 18446744073709551616 + b + (c * 18446744073709551616 + d)) % 340282366920938463463374607431768211456) from ⟨by omega, by omega, by omega⟩)
    clear hl hp hh hb hd
    go_enter Tryz.func120, Tryz.ntmps120
    go_wp2
    exact bodyPost_ret (v := Ud h l) (by simp [results, Tryz.results120, go_sem]) rfl ⟨⟨h, l, rfl, V.out⟩, by have HX := X.1; have hz := HX.size; go_grown⟩
  · have V := hide (show Wd p l ((a * 18446744073709551616 + b + (c * 18446744073709551616 + d)) % 340282366920938463463374607431768211456) from ⟨by omega, by omega, by omega⟩)
    clear hl hp hh hb hd e3
    go_enter Tryz.func120, Tryz.ntmps120
    go_wp2
    exact bodyPost_ret (v := Ud p l) (by simp [results, Tryz.results120, go_sem]) rfl ⟨⟨p, l, rfl, V.out⟩, by have HX := X.1; have hz := HX.size; go_grown⟩
set_option maxHeartbeats 400000 in
theorem r3minus_any (a b c d : Nat) (w : World) (ha : a < 18446744073709551616) (hb : b < 18446744073709551616) (hc : c < 18446744073709551616) (hd : d < 18446744073709551616) :
    Calls Tryz.prog 146 #[Ud a b, Ud c d] w fun e w' => (∃ h l : Nat, e = .returned (Ud h l) ∧ Wd h l ((a * 18446744073709551616 + b + 340282366920938463463374607431768211456 - (c * 18446744073709551616 + d)) % 340282366920938463463374607431768211456)) ∧ Below w.heap.size w w' := by
  have X := (((Own.start w).alloc #[.int .u64 (a : Int), .int .u64 (b : Int)] 109).alloc #[.int .u64 (c : Int), .int .u64 (d : Int)] 109).alloc #[.int .u64 0, .int .u64 0] 109
  simp only [World.size_alloc] at X
  have hr := X.r3
  obtain ⟨l, hl⟩ : ∃ l : Nat, l = (b + 18446744073709551616 - d) % 18446744073709551616 := ⟨_, rfl⟩
  obtain ⟨p, hp⟩ : ∃ p : Nat, p = (a + 18446744073709551616 - c) % 18446744073709551616 := ⟨_, rfl⟩
  obtain ⟨h, hh⟩ : ∃ h : Nat, h = (a + 18446744073709551616 + 18446744073709551616 - c - 1) % 18446744073709551616 := ⟨_, rfl⟩
  have e1 : IntKind.u64.wrap ((b : Int) - (d : Int)) = (l : Int) := by rw [IntKind.wrap_u64]; omega
  have e2 : IntKind.u64.wrap ((a : Int) - (c : Int)) = (p : Int) := by rw [IntKind.wrap_u64]; omega
  have e3 : IntKind.u64.wrap ((p : Int) - 1) = (h : Int) := by rw [IntKind.wrap_u64]; omega
  by_cases t : (b : Int) < (d : Int)
  · have V := hide (show Wd h l ((a * 18446744073709551616 + b + 340282366920938463463374607431768211456 - (c * 18446744073709551616 + d)) % 340282366920938463463374607431768211456) from ⟨by omega, by omega, by omega⟩)
    clear hl hp hh ha hb hc hd
    go_enter Tryz.func146, Tryz.ntmps146
    go_wp2
    exact bodyPost_ret (v := Ud h l) (by simp [results, Tryz.results146, go_sem]) rfl ⟨⟨h, l, rfl, V.out⟩, by have HX := X.1; have hz := HX.size; go_grown⟩
  · have V := hide (show Wd p l ((a * 18446744073709551616 + b + 340282366920938463463374607431768211456 - (c * 18446744073709551616 + d)) % 340282366920938463463374607431768211456) from ⟨by omega, by omega, by omega⟩)
    clear hl hp hh ha hb hc hd e3
    go_enter Tryz.func146, Tryz.ntmps146
    go_wp2
    exact bodyPost_ret (v := Ud p l) (by simp [results, Tryz.results146, go_sem]) rfl ⟨⟨p, l, rfl, V.out⟩, by have HX := X.1; have hz := HX.size; go_grown⟩
set_option maxHeartbeats 1000000 in
theorem r3mul_core (a b ah al bh bl p q r s mid oth H L s1 s0 m1 m0 o1 o2 p1 : Nat) (w : World) (E1 : (a : Int) / 4294967296 = (ah : Int)) (E2 : bits .and .u64 (a : Int) 4294967295 = (al : Int)) (E3 : (b : Int) / 4294967296 = (bh : Int)) (E4 : bits .and .u64 (b : Int) 4294967295 = (bl : Int))
    (E5 : IntKind.u64.wrap ((al : Int) * (bl : Int)) = (s : Int)) (E6 : IntKind.u64.wrap ((ah : Int) * (bl : Int)) = (q : Int)) (E7 : (s : Int) / 4294967296 = (s1 : Int)) (E8 : IntKind.u64.wrap ((q : Int) + (s1 : Int)) = (mid : Int))
    (E9 : IntKind.u64.wrap ((al : Int) * (bh : Int)) = (r : Int)) (E10 : bits .and .u64 (mid : Int) 4294967295 = (m0 : Int)) (E11 : IntKind.u64.wrap ((r : Int) + (m0 : Int)) = (oth : Int))
    (E12 : IntKind.u64.wrap ((ah : Int) * (bh : Int)) = (p : Int)) (E13 : (mid : Int) / 4294967296 = (m1 : Int)) (E14 : IntKind.u64.wrap ((p : Int) + (m1 : Int)) = (p1 : Int)) (E15 : (oth : Int) / 4294967296 = (o1 : Int)) (E16 : IntKind.u64.wrap ((p1 : Int) + (o1 : Int)) = (H : Int))
    (E17 : IntKind.u64.wrap ((oth : Int) * 4294967296) = (o2 : Int)) (E18 : bits .and .u64 (s : Int) 4294967295 = (s0 : Int)) (E19 : IntKind.u64.wrap ((o2 : Int) + (s0 : Int)) = (L : Int)) :
    Calls Tryz.prog 118 #[.int .u64 (a : Int), .int .u64 (b : Int)] w fun e w' => e = .returned (Ud H L) ∧ Below w.heap.size w w' := by
  have X := (Own.start w).alloc #[.int .u64 0, .int .u64 0] 109
  have hr := X.r1
  go_enter Tryz.func118, Tryz.ntmps118
  go_wp2
  exact bodyPost_ret (v := Ud H L) (by simp [results, Tryz.results118, go_sem]) rfl ⟨rfl, by have HX := X.1; have hz := HX.size; go_grown⟩
theorem e_mulw {x y z : Nat} (h : z = x * y) (hz : z < 18446744073709551616) : IntKind.u64.wrap ((x : Int) * (y : Int)) = (z : Int) := by rw [← Int.natCast_mul, ← h]; exact u64_nat hz
theorem e_addw {x y z : Nat} (h : z = x + y) (hz : z < 18446744073709551616) : IntKind.u64.wrap ((x : Int) + (y : Int)) = (z : Int) := by rw [← Int.natCast_add, ← h]; exact u64_nat hz
theorem r3mul_any (a b : Nat) (w : World) (ha : a < 18446744073709551616) (hb : b < 18446744073709551616) :
    Calls Tryz.prog 118 #[.int .u64 (a : Int), .int .u64 (b : Int)] w fun e w' => (∃ h l : Nat, e = .returned (Ud h l) ∧ Wd h l (a * b)) ∧ Below w.heap.size w w' := by
  obtain ⟨ah, al, bh, bl, p, q, r, s, mid, oth, H, L, k1, k2, k3, k4, k5, k6, k7, k8, k9, k10, k11, k12, k13, b1, b2, b3, b4, b5, b6, b7, b8, b9⟩ := mul_words ha hb
  refine (r3mul_core a b ah al bh bl p q r s mid oth H L (s / 4294967296) (s % 4294967296) (mid / 4294967296) (mid % 4294967296) (oth / 4294967296) (oth * 4294967296 % 18446744073709551616) (p + mid / 4294967296) w
    (e_div (a := 4294967296) k1) (by rw [k2]; exact u64_and32 ha) (e_div (a := 4294967296) k3) (by rw [k4]; exact u64_and32 hb)
    (e_mulw k5 b1) (e_mulw k6 b2) (e_div (a := 4294967296) rfl) (e_addw k7 b3)
    (e_mulw k8 b4) (u64_and32 b3) (e_addw k9 b5)
    (e_mulw k10 b6) (e_div (a := 4294967296) rfl) (e_addw rfl b7) (e_div (a := 4294967296) rfl) (e_addw k11 b8)
    (e_mul32 rfl) (u64_and32 b1) (e_addw k12 b9)).mono ?_
  rintro e w' ⟨rfl, hb⟩
  exact ⟨⟨H, L, rfl, b8, b9, k13⟩, hb⟩
set_option maxHeartbeats 400000 in
theorem r3shift_any (a b c : Nat) (w : World) (hb : b < 18446744073709551616) (hc : c ≤ 1) :
    Calls Tryz.prog 145 #[Ud a b, .int .u64 (c : Int)] w fun e w' => (∃ h l : Nat, e = .returned (Ud h l) ∧ Wd h l ((a * 18446744073709551616 + b) * 2 % 340282366920938463463374607431768211456 + c)) ∧ Below w.heap.size w w' := by
  have X := ((Own.start w).alloc #[.int .u64 (a : Int), .int .u64 (b : Int)] 109).alloc #[.int .u64 0, .int .u64 0] 109
  simp only [World.size_alloc] at X
  have hr := X.r2
  obtain ⟨p, hp⟩ : ∃ p : Nat, p = a * 2 % 18446744073709551616 := ⟨_, rfl⟩
  obtain ⟨k, hk⟩ : ∃ k : Nat, k = b / 9223372036854775808 := ⟨_, rfl⟩
  obtain ⟨h, hh⟩ : ∃ h : Nat, h = p + k := ⟨_, rfl⟩
  obtain ⟨q, hq⟩ : ∃ q : Nat, q = b * 2 % 18446744073709551616 := ⟨_, rfl⟩
  obtain ⟨l, hl⟩ : ∃ l : Nat, l = q + c := ⟨_, rfl⟩
  have e1 : IntKind.u64.wrap ((a : Int) * 2) = (p : Int) := e_mul (y := 2) hp
  have e2 : (b : Int) / 9223372036854775808 = (k : Int) := e_div (a := 9223372036854775808) hk
  have e3 : IntKind.u64.wrap ((p : Int) + (k : Int)) = (h : Int) := e_addw hh (by omega)
  have e4 : IntKind.u64.wrap ((b : Int) * 2) = (q : Int) := e_mul (y := 2) hq
  have e5 : IntKind.u64.wrap ((q : Int) + (c : Int)) = (l : Int) := e_addw hl (by omega)
  have V := hide (show Wd h l ((a * 18446744073709551616 + b) * 2 % 340282366920938463463374607431768211456 + c) from ⟨by omega, by omega, by omega⟩)
  clear hp hk hh hq hl hb hc
  go_enter Tryz.func145, Tryz.ntmps145
  go_wp2
  exact bodyPost_ret (v := Ud h l) (by simp [results, Tryz.results145, go_sem]) rfl ⟨⟨h, l, rfl, V.out⟩, by have HX := X.1; have hz := HX.size; go_grown⟩
end Go.Proofs.YtbmocghfpcfmhaaGreatDoor
