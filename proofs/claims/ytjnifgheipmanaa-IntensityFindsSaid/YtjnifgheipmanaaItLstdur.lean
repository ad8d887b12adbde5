/- The program's Duration, its closure, and least with it; nothing that was there is turned. -/
import Derived.Test.YtjnifgheipmanaaItLst
namespace Go.Proofs.Ytjnifgheipmanaa
open Go.RowKit

set_option maxRecDepth 100000 in
set_option maxHeartbeats 4000000 in
theorem durclo_any (T : Tab) (A3 : Option Addr) (k3 : Nat) (Q : Pl) (k pb tb : Nat) (w : World) (v : VT T) (hm : MixB Q 4194304) (hp : Q.hi < T.ps.length) (hlo : Q.lo ≤ Q.hi) (hk : k < T.ds.length) (hR : RowsSl w A3 T.rows)
    (p0 : w.cell? ⟨pb, 0, none⟩ = some (.int .i64 (Q.lo : Int))) (p1 : w.cell? ⟨pb, 1, none⟩ = some (.int .i64 (Q.hi : Int))) (p2 : w.cell? ⟨pb, 2, none⟩ = some (.int .i64 Q.rest)) (p3 : w.cell? ⟨pb, 3, none⟩ = some (.int .i64 Q.whole))
    (t2 : w.cell? ⟨tb, 2, none⟩ = some (.slice A3 T.rows.length k3)) :
    Calls Try.prog 41 #[.int .i64 (k : Int), .pointer (some ⟨pb, 0, none⟩), .pointer (some ⟨tb, 0, none⟩)] w (NumPost (Q.val (fun j => T.cell j k)) w) := by
  have rl := v.rl
  obtain ⟨ob, oo, rfl, hob, hrow⟩ := hR.2 (by omega)
  obtain ⟨R1, s1, e1, hR1, _⟩ := hrow (Q.lo) (by omega)
  obtain ⟨R2, s2, e2, hR2, _⟩ := hrow (Q.hi) (by omega)
  have n1 := v.rw (Q.lo) (by omega)
  have n2 := v.rw (Q.hi) (by omega)
  have lds := v.d2
  obtain ⟨b1, o1, rfl, hb1, hat1⟩ := hR1.at_ (by omega)
  obtain ⟨b2, o2, rfl, hb2, hat2⟩ := hR2.at_ (by omega)
  have l0 : w.cell? ⟨b1, o1 + k, none⟩ = some (.int .i64 (T.cell (Q.lo) (k))) := hat1 (k) (by omega)
  have l1 : w.cell? ⟨b2, o2 + k, none⟩ = some (.int .i64 (T.cell (Q.hi) (k))) := hat2 (k) (by omega)
  rw [n1] at e1
  rw [n2] at e2
  have c0 := v.cB (Q.lo) (k) (by omega) (by omega)
  have c1 := v.cB (Q.hi) (k) (by omega) (by omega)
  have G : Hid (Q.val (fun j => T.cell j k) = (Q.whole - Q.rest) * T.cell (Q.lo) (k) + Q.rest * T.cell (Q.hi) (k)) := rfl
  clear hrow hR1 hR2 hat1 hat2 n1 n2 hR
  generalize T.cell (Q.lo) (k) = u0 at *
  generalize T.cell (Q.hi) (k) = u1 at *
  have M := hide (fun W => mix_any Q u0 u1 4194304 W hm c0.1 c0.2 c1.1 c1.2)
  obtain ⟨ql, qh, qr, qw⟩ := Q
  simp only at *
  have g0 : (0 : Int) ≤ (k : Int) := by omega
  have g1 : (0 : Int) ≤ (ql : Int) := by omega
  have g2 : (0 : Int) ≤ (qh : Int) := by omega

  have g3 : (ql : Int) < (T.rows.length : Int) := by omega
  have g4 : (qh : Int) < (T.rows.length : Int) := by omega
  have g5 : (k : Int) < (T.ds.length : Int) := by omega

  have HS : Hid (w.cell? ⟨pb, 0, none⟩ = some (.int .i64 (ql : Int)) ∧ w.cell? ⟨pb, 1, none⟩ = some (.int .i64 (qh : Int)) ∧ w.cell? ⟨pb, 2, none⟩ = some (.int .i64 qr) ∧ w.cell? ⟨pb, 3, none⟩ = some (.int .i64 qw) ∧ w.cell? ⟨tb, 2, none⟩ = some (.slice (some ⟨ob, oo, none⟩) T.rows.length k3) ∧
      w.cell? ⟨ob, oo + ql, none⟩ = some (.slice (some ⟨b1, o1, none⟩) T.ds.length s1) ∧ w.cell? ⟨ob, oo + qh, none⟩ = some (.slice (some ⟨b2, o2, none⟩) T.ds.length s2) ∧ w.cell? ⟨b1, o1 + k, none⟩ = some (.int .i64 u0) ∧ w.cell? ⟨b2, o2 + k, none⟩ = some (.int .i64 u1)) := hide ⟨p0, p1, p2, p3, t2, e1, e2, l0, l1⟩
  clear rl lds v hm hp hlo hk
  go_enter Try.func41, Try.ntmps41
  go_wp2_with fail
  go_region_held3 (fun w' => w'.cell? ⟨pb, 0, none⟩ = some (.int .i64 (ql : Int)) ∧ w'.cell? ⟨pb, 1, none⟩ = some (.int .i64 (qh : Int)) ∧ w'.cell? ⟨pb, 2, none⟩ = some (.int .i64 qr) ∧ w'.cell? ⟨pb, 3, none⟩ = some (.int .i64 qw) ∧ w'.cell? ⟨tb, 2, none⟩ = some (.slice (some ⟨ob, oo, none⟩) T.rows.length k3) ∧
      w'.cell? ⟨ob, oo + ql, none⟩ = some (.slice (some ⟨b1, o1, none⟩) T.ds.length s1) ∧ w'.cell? ⟨ob, oo + qh, none⟩ = some (.slice (some ⟨b2, o2, none⟩) T.ds.length s2) ∧ w'.cell? ⟨b1, o1 + k, none⟩ = some (.int .i64 u0) ∧ w'.cell? ⟨b2, o2 + k, none⟩ = some (.int .i64 u1))
    (first | exact cells9_below hB HS.out | go_keep)
    (first | (go_at_call 42; refine (M.out _).mono ?_; rintro e w3 ⟨rfl, hb⟩; have hB : Below w.heap.size w w3 := below_via (by go_grown) (by go_size) hb))
  go_wp2
  go_ret
  exact ⟨ret_int G.out.symm, hB⟩

set_option maxRecDepth 100000 in
set_option maxHeartbeats 4000000 in
theorem durleast_any (l : List Int) (g : Nat → Int) (wh v : Int) (A : Option Addr) (cap pb tb : Nat) (w : World) (hl : IntSl w A l) (hi : LeastIn l g wh)
    (hC : ∀ W (k : Nat), Below w.heap.size w W → k < l.length → Calls Try.prog 41 #[.int .i64 (k : Int), .pointer (some ⟨pb, 0, none⟩), .pointer (some ⟨tb, 0, none⟩)] W (NumPost (g k) W)) :
    Calls Try.prog 40 #[.slice A l.length cap, .int .i64 v, .int .i64 wh, .func (.func 41) #[] #[.pointer (some ⟨pb, 0, none⟩), .pointer (some ⟨tb, 0, none⟩)]] w (LeastPost l g wh v w) := by
  have HL := hide hl
  have HC := hide hC
  have HI := hide hi
  have hlen := hi.len
  have hpos := hi.line.pos
  have hw0 := hi.line.wpos
  have hw1 := hi.wb
  have X := (Own.start w).alloc #[.int .i64 0, .int .i64 0] 29
  clear hl hC hi
  have t : v ≤ 0 ∨ (0 < v ∧ 4194304 < v) ∨ (0 < v ∧ v ≤ 4194304) := by omega
  rcases t with t | ⟨t1, t2⟩ | ⟨t1, t2⟩
  · have R := hide (fnd_low HI.out.line (fun i hi => (HI.out.gb i hi).1) t)
    obtain ⟨b, off, rfl, hbl, hat⟩ := (HL.out.below X.1).at_ (by omega)
    have c0 := hat 0 (by omega)
    rw [Nat.add_zero] at c0
    have n0 : (0 : Int) < (l.length : Int) := by omega
    have n0' : 0 < l.length := by omega
    have n1 : ¬ w.heap.size = b := fun e => by have := (HL.out).at_ (by omega); obtain ⟨b', o', e', h', _⟩ := this; cases e'; omega
    clear hat
    generalize l.getD 0 0 = x at *
    go_enter Try.func40, Try.ntmps40
    go_wp2
    go_region
    go_wp2
    exact bodyPost_ret (v := .tuple #[Sv x x, .int .i64 0]) (by simp [results, Try.results40, go_sem]) rfl (LeastPost.yes R.out rfl rfl (by go_grown))
  · have R := hide (fnd_high HI.out.line (fun i hi => (HI.out.gb i hi).2) t2)
    go_enter Try.func40, Try.ntmps40
    go_wp2
    exact bodyPost_ret (v := .tuple #[Sv 0 0, .int .i64 12]) (by simp [results, Try.results40, go_sem]) rfl (LeastPost.no R.out (by go_grown))
  have m0 : 0 < v * wh := Int.mul_pos t1 hw0
  have m1 : v * wh ≤ 4194304 * 2592000 := Int.mul_le_mul t2 hw1 (by omega) (by omega)
  have z1 := IntWalk.wrap64_in (v * wh) (by omega)
  have z2 := IntWalk.i64_in (v * wh) (by omega)
  have hr := X.r1
  go_enter Try.func40, Try.ntmps40
  go_wp2
  clear z1 z2 hr
  obtain ⟨u, hu⟩ : ∃ u, u = v * wh := ⟨_, rfl⟩
  have HU := hide hu
  rw [← hu] at m0 m1 ⊢
  clear hu
  go_loopw [34] (fun v34 wr => ∃ k : Nat, k ≤ l.length ∧ v34 = .int .i64 k ∧ Own w wr [(w.heap.size, 29, #[.int .i64 0, .int .i64 0])] ∧ Hid (∀ i, i < k → g i < u)) (fun v34 _ => l.length - (intOf v34).toNat)
  case atStart => exact ⟨0, Nat.zero_le _, rfl, X, hide (fun _ h => by omega)⟩
  case round =>
    clear X
    obtain ⟨k, hk, rfl, Y, hno⟩ := hrel
    have hr := Y.r1
    by_cases hlt : k < l.length
    · obtain ⟨b, off, rfl, hbl, hat⟩ := (HL.out.below Y.1).at_ (by omega)
      have CELL := hide (fun W (hW : Below w.heap.size w W) i (hi : i < l.length) => by
        obtain ⟨b', off', e', _, hat'⟩ := (HL.out.below hW).at_ (by omega)
        cases e'
        exact (hat' i hi : W.cell? ⟨b, off + i, none⟩ = some (.int .i64 (l.getD i 0))))
      have c0 := hat k hlt
      have nb : b < w.heap.size := by
        obtain ⟨b', off', e', h', _⟩ := HL.out.at_ (by omega)
        cases e'; exact h'
      clear hat
      have gb := HI.out.gb k hlt
      have sm := HI.out.small k hlt
      have STEP : Hid (g k < u → ∀ i, i < k + 1 → g i < u) := hide fun h i hi => by
        by_cases e : i = k
        · subst e; exact h
        · exact hno.out i (by omega)
      by_cases h1 : g k < u
      · have ST := hide (STEP.out h1)
        generalize l.getD k 0 = x at *
        go_wp2_with fail
        refine (HC.out _ k Y.1 hlt).mono ?_
        rintro e w3 ⟨rfl, hb⟩
        replace Y := Y.to hb
        clear hb hr
        go_wp2
        go_roundw
        case rel => exact ⟨k + 1, by omega, by go_num, Y, ST⟩
        case measure => simp [intOf]; omega
      · cases k with
        | zero =>
          have R := hide (fnd_first HI.out.line (v := v) (by rw [← HU.out]; omega))
          rw [Nat.add_zero] at c0
          generalize l.getD 0 0 = x at *
          go_wp2_with fail
          refine (HC.out _ 0 Y.1 hlt).mono ?_
          rintro e w3 ⟨rfl, hb⟩
          replace Y := Y.to hb
          clear hb hr
          have hr := Y.r1
          go_wp2
          exact bodyPost_ret (v := .tuple #[Sv x x, .int .i64 0]) (by simp [results, Try.results40, hr, go_sem]) rfl (LeastPost.yes R.out rfl rfl (below_set (below_set Y.1 (by omega) _) (by omega) _))
        | succ j =>
          have hb0 := hno.out j (by omega)
          have q0 : ((j : Int) + 1 == 0) = false := beq_eq_false_iff_ne.2 (by omega)
          by_cases h2 : g (j + 1) = u
          · have R := hide (fnd_at HI.out.line hlt (v := v) (by rw [← HU.out]; exact hb0) (by rw [← HU.out]; exact h2))
            have q1 : (g (j + 1) == u) = true := by simpa using h2
            clear h2
            generalize l.getD (j + 1) 0 = x at *
            go_wp2_with fail
            refine (HC.out _ (j + 1) Y.1 hlt).mono ?_
            rintro e w3 ⟨rfl, hb⟩
            replace Y := Y.to hb
            clear hb hr
            have hr := Y.r1
            go_wp2
            exact bodyPost_ret (v := .tuple #[Sv x x, .int .i64 0]) (by simp [results, Try.results40, hr, go_sem]) rfl (LeastPost.yes R.out rfl rfl (below_set (below_set Y.1 (by omega) _) (by omega) _))
          · have R := hide (fnd_in HI.out.line hlt (v := v) (by rw [← HU.out]; exact hb0) (by rw [← HU.out]; omega))
            have q1 : (g (j + 1) == u) = false := by simpa using h2
            have asj := HI.out.line.asc j hlt
            have sm0 := HI.out.small j (by omega)
            have gb0 := HI.out.gb j (by omega)
            rw [← HU.out] at R
            have wb2 : 4194304 * wh ≤ 4194304 * 2592000 := Int.mul_le_mul_of_nonneg_left hw1 (by omega)
            obtain ⟨na, nd, nc, ea, ed, ec, k1, k2, k3, k4, k5, k6, s1, s2, s3, s4⟩ := between_nat (A := u - g j) (D := l.getD (j + 1) 0 - l.getD j 0) (C := g (j + 1) - g j) (by omega) (by omega) (by omega) (by omega) (by omega) (by omega)
            have S := hide (fun W => span_any na nd nc W k2 k3 k1 k4 k5 k6)
            have em : ((na * nd : Nat) : Int) = (u - g j) * (l.getD (j + 1) 0 - l.getD j 0) := by rw [Int.natCast_mul, ← ea, ← ed]
            rw [em] at S
            have eQ : (nc : Int) = g (j + 1) - g j := ec.symm
            rw [eQ] at S
            clear eQ
            have CJ := hide (fun W (hW : Below w.heap.size w W) => CELL.out W hW j (by omega))
            have c1 := CJ.out wr Y.1
            clear h2 em k2 k3 k1 k4 k5 k6
            generalize l.getD (j + 1) 0 = x at *
            generalize l.getD j 0 = y at *
            rw [← ea, ← ed] at S
            clear ea ed ec
            go_wp2_with fail
            refine (HC.out _ (j + 1) Y.1 hlt).mono ?_
            rintro e w3 ⟨rfl, hb⟩
            replace Y := Y.to hb
            clear hb hr c1
            have hr := Y.r1
            have c1 := CJ.out w3 Y.1
            go_wp2_with fail
            refine (HC.out _ j Y.1 (by omega)).mono ?_
            rintro e w4 ⟨rfl, hb⟩
            replace Y := Y.to hb
            clear hb hr c1
            have hr := Y.r1
            have c1 := CJ.out w4 Y.1
            go_wp2_with fail
            with_reducible refine (S.out _).mono ?_
            rintro e w5 ⟨rfl, hb⟩
            clear S c0
            generalize (u - g j) * (x - y) / (g (j + 1) - g j) = sl at *
            generalize cdiv ((u - g j) * (x - y)) (g (j + 1) - g j) = sh at *
            replace Y := Y.to hb
            have z5 := Y.1.size
            replace Y := Y.alloc #[.int .i64 sl, .int .i64 sh] 29
            clear hb hr c1
            have hr := Y.r2
            have c1 := CJ.out _ Y.1
            have n5 : ¬ w5.heap.size = b := by omega
            have n6 : ¬ w.heap.size = b := by omega
            have HY := hide Y
            go_wp2
            go_region
            go_wp2
            exact bodyPost_ret (v := .tuple #[Sv (y + sl) (y + sh), .int .i64 0]) (by simp [results, Try.results40, hr, go_sem]) rfl (LeastPost.yes R.out rfl rfl (below_set (below_set HY.out.1 (Nat.le_refl _) _) (Nat.le_refl _) _).drew)
    · have R := hide (fnd_none HI.out.line (v := v) (fun i hi => by rw [← HU.out]; exact hno.out i (by omega)))
      clear hno
      go_wp2
      exact bodyPost_ret (v := .tuple #[Sv 0 0, .int .i64 12]) (by simp [results, Try.results40, hr, go_sem]) rfl (LeastPost.no R.out (below_set (below_set Y.1 (by omega) _) (by omega) _))


def XPost (T : Tab) (v y : Int) (w : World) (e : Ending) (w' : World) : Prop :=
  Below w.heap.size w w' ∧ ((vT T = false ∧ e = .returned (.tuple #[Sv 0 0, .int .i64 1])) ∨ (vT T = true ∧ inL T.ps y = false ∧ e = .returned (.tuple #[Sv 0 0, .int .i64 2])) ∨
    (vT T = true ∧ inL T.ps y = true ∧ ((∃ lo hi, Fnd T.ds (fun k => (plc T.ps y).val (fun j => T.cell j k)) (plc T.ps y).whole v lo hi ∧ e = .returned (.tuple #[Sv lo hi, .int .i64 0])) ∨ (NoF T.ds (fun k => (plc T.ps y).val (fun j => T.cell j k)) (plc T.ps y).whole v ∧ e = .returned (.tuple #[Sv 0 0, .int .i64 12])))))
set_option maxRecDepth 100000 in
set_option maxHeartbeats 4000000 in
theorem dur_any (T : Tab) (a : TabA) (v y : Int) (w : World) (ht : TabSl w T a) :
    Calls Try.prog 18 #[T.val a, .int .i64 v, .int .i64 y] w (XPost T v y w) := by
  obtain ⟨A1, A2, A3, k1, k2, k3⟩ := a
  have X := ((Own.start w).alloc #[.slice A1 T.ds.length k1, .slice A2 T.ps.length k2, .slice A3 T.rows.length k3] 25).alloc #[.int .i64 0, .int .i64 0] 29
  simp only [World.size_alloc] at X
  have HT := hide ht
  have V := hide (fun W (h : TabSl W T ⟨A1, A2, A3, k1, k2, k3⟩) => tvalid_any T ⟨A1, A2, A3, k1, k2, k3⟩ W h)
  clear ht
  rcases Bool.eq_false_or_eq_true (vT T) with t1 | t1
  rotate_left
  · have T1 := hide t1
    go_enter Try.func18, Try.ntmps18
    go_wp2_with fail
    refine (V.out _ (HT.out.below X.1)).mono ?_
    rintro e w1 ⟨rfl, hb⟩
    rw [t1]
    replace X := X.to hb
    clear hb
    have hr := X.r2
    go_wp2
    exact bodyPost_ret (v := .tuple #[Sv 0 0, .int .i64 1]) (by simp [results, Try.results18, hr, go_sem]) rfl ⟨below_set (below_set X.1 (by omega) _) (by omega) _, .inl ⟨T1.out, rfl⟩⟩
  have vv := of_vT t1
  have F := hide (fun W (h : IntSl W A2 T.ps) => find_any T.ps A2 k2 y W h vv.pA vv.p1 (by have := vv.p2; omega) (small_p vv))
  unfold FindPost at F
  have HV := hide vv
  have T1 := hide t1
  rcases Bool.eq_false_or_eq_true (inL T.ps y) with t2 | t2
  rotate_left
  · have T2 := hide t2
    rw [t2] at F
    generalize fPl T.ps y = P at *
    clear vv
    go_enter Try.func18, Try.ntmps18
    go_wp2_with fail
    refine (V.out _ (HT.out.below X.1)).mono ?_
    rintro e w1 ⟨rfl, hb⟩
    rw [t1]
    replace X := X.to hb
    clear hb t1 t2
    have hr := X.r2
    go_wp2_with fail
    refine (F.out _ (HT.out.2.1.below X.1)).mono ?_
    rintro e w2 ⟨rfl, hb⟩
    replace X := (X.to hb).alloc #[.int .i64 (P.lo : Int), .int .i64 (P.hi : Int), .int .i64 P.rest, .int .i64 P.whole] 66
    clear hb hr
    have hr := X.r3
    go_wp2
    exact bodyPost_ret (v := .tuple #[Sv 0 0, .int .i64 2]) (by simp [results, Try.results18, hr, go_sem]) rfl ⟨below_set (below_set X.1 (by omega) _) (by omega) _, .inr (.inl ⟨T1.out, T2.out, rfl⟩)⟩
  have T2 := hide t2
  have q : fPl T.ps y = plc T.ps y := by unfold fPl; rw [if_pos t2]
  rw [q, t2] at F
  have pq := vv.py t2
  have bq := pq.bd
  have wq := vv.wy t2
  have LI : Hid (LeastIn T.ds (fun k => (plc T.ps y).val (fun j => T.cell j k)) (plc T.ps y).whole) := hide ⟨vv.lineX t2, small_d vv, by have := vv.d2; omega, fun i hi => vv.col_bd t2 hi, by omega⟩
  have MB := hide (show MixB (plc T.ps y) 4194304 from ⟨by omega, by omega, by omega, by omega, by omega⟩)
  have PH := hide pq.1
  have PL := hide bq.2.2.1
  have RL := hide vv.rl
  have L := hide (fun (pb tb : Nat) W (h : IntSl W A1 T.ds) hC => durleast_any T.ds (fun k => (plc T.ps y).val (fun j => T.cell j k)) (plc T.ps y).whole v A1 k1 pb tb W h LI.out hC)
  have CL := hide (fun (kk pb tb : Nat) W => durclo_any T A3 k3 (plc T.ps y) kk pb tb W HV.out MB.out PH.out PL.out)
  clear vv q pq bq wq
  go_enter Try.func18, Try.ntmps18
  go_wp2_with fail
  refine (V.out _ (HT.out.below X.1)).mono ?_
  rintro e w1 ⟨rfl, hb⟩
  rw [t1]
  replace X := X.to hb
  clear hb t1 t2
  have hr := X.r2
  go_wp2_with fail
  refine (F.out _ (HT.out.2.1.below X.1)).mono ?_
  rintro e w2 ⟨rfl, hb⟩
  replace X := (X.to hb).alloc #[.int .i64 ((plc T.ps y).lo : Int), .int .i64 ((plc T.ps y).hi : Int), .int .i64 (plc T.ps y).rest, .int .i64 (plc T.ps y).whole] 66
  clear hb hr
  have hr := X.r3
  go_wp2_with fail
  refine (L.out _ _ _ (HT.out.1.below X.1) (fun W kk hW hk => ?_)).mono ?_
  · have Z := X.to hW
    have z := Z.r3
    exact CL.out kk _ _ W hk (HT.out.2.2.1.below Z.1) (z.1.1 0) (z.1.1 1) (z.1.1 2) (z.1.1 3) (z.2.2.1 2)
  rintro e w3 ⟨hb, ⟨lo, hi, hf, rfl⟩ | ⟨hf, rfl⟩⟩
  · have HF := hide hf
    replace X := X.to hb
    clear hb hr hf
    have hr := X.r3
    go_wp2
    exact bodyPost_ret (v := .tuple #[Sv lo hi, .int .i64 0]) (by simp [results, Try.results18, hr, go_sem]) rfl ⟨below_set (below_set X.1 (by omega) _) (by omega) _, .inr (.inr ⟨T1.out, T2.out, .inl ⟨lo, hi, HF.out, rfl⟩⟩)⟩
  · have HF := hide hf
    replace X := X.to hb
    clear hb hr hf
    have hr := X.r3
    go_wp2
    exact bodyPost_ret (v := .tuple #[Sv 0 0, .int .i64 12]) (by simp [results, Try.results18, hr, go_sem]) rfl ⟨below_set (below_set X.1 (by omega) _) (by omega) _, .inr (.inr ⟨T1.out, T2.out, .inr ⟨HF.out, rfl⟩⟩)⟩
end Go.Proofs.Ytjnifgheipmanaa
