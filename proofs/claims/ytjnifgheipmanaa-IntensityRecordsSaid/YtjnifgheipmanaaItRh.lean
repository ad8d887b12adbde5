/- The reference's Fraction and Depth. -/
import Derived.Test.YtjnifgheipmanaaItRg
import Derived.Test.YtjnifgheipmanaaItDep
namespace Go.Proofs.Ytjnifgheipmanaa
open Go.RowKit

def FracPost (n d : Int) (w : World) (e : Ending) (w' : World) : Prop := e = .returned (.tuple #[.int .i64 n, .int .i64 d]) ∧ Below w.heap.size w w'
set_option maxRecDepth 100000 in
set_option maxHeartbeats 8000000 in
theorem frac_any (T : Tab) (a : TabA) (x y : Int) (w : World) (ht : TabSl w T a) (v : VT T) (h : inT T x y) :
    Calls Try.prog 36 #[T.val a, .int .i64 x, .int .i64 y] w (FracPost (rN T x y) (rD T x y) w) := by
  obtain ⟨A1, A2, A3, k1, k2, k3⟩ := a
  have X := (Own.start w).alloc #[.slice A1 T.ds.length k1, .slice A2 T.ps.length k2, .slice A3 T.rows.length k3] 25
  have HT := hide ht
  have V := hide v
  have I := hide h
  have row : ∀ j, j < T.ps.length → ∃ b off R c, A3 = some ⟨b, off, none⟩ ∧ b < w.heap.size ∧ w.cell? ⟨b, off + j, none⟩ = some (.slice R T.ds.length c) ∧
      Hid (∀ W, Below w.heap.size w W → Calls Try.prog 59 #[.slice A1 T.ds.length k1, .slice R T.ds.length c, .int .i64 x] W fun e w' => e = .returned (.tuple #[.int .i64 (rfN T.ds (T.cell j) x), .int .i64 (rfD T.ds x)]) ∧ ∃ d, w' = W.drewN d) := fun j hj => by
    obtain ⟨b, off, R, c, e, hb, q, hR⟩ := ht.2.2.1.row (i := j) (by have := v.rl; omega)
    have n := v.rw j hj
    rw [n] at q
    refine ⟨b, off, R, c, e, hb, q, hide fun W hB => ?_⟩
    have z := rfrow_any T.ds (T.rows.getD j []) A1 R k1 c x W (ht.1.below hB) (hR.below hB) v.dA v.d1 (by have := v.d2; omega) n h.1 v.dB (fun i hi => v.cB j i hj (by omega))
    rw [n] at z
    exact z
  have HRow := hide row
  have dbd := rfD_bd v.dA v.d1 h.1 v.dB
  have p2 := v.p2
  have p1 := v.p1
  have rl := v.rl
  clear ht row
  by_cases hn : T.ps.length = 1
  · have V1 := hide (show rN T x y = rfN T.ds (T.cell 0) x by unfold rN; rw [rfN, if_pos hn])
    have V2 := hide (show rD T x y = rfD T.ds x by unfold rD; rw [rfD.eq_def T.ps, if_pos hn, Int.mul_one])
    obtain ⟨b, off, R, c, rfl, hb, q, C⟩ := HRow.out 0 (by omega)
    rw [Nat.add_zero] at q
    have hn2 : T.rows.length = 1 := by omega
    rw [hn, hn2] at X
    have X0 := hide X
    have hr := X.r1
    clear rl p1 p2 dbd v h
    generalize rfN T.ds (T.cell 0) x = n at *
    generalize rfD T.ds x = m at *
    show Calls Try.prog 36 #[.agg #[.slice A1 T.ds.length k1, .slice A2 T.ps.length k2, .slice (some ⟨b, off, none⟩) T.rows.length k3], .int .i64 x, .int .i64 y] w _
    rw [hn, hn2]
    have q' := (X.1.cell (p := ⟨b, off, none⟩) hb).trans q
    clear hn hn2 q X
    go_enter Try.func36, Try.ntmps36
    go_wp2
    go_quiet ((go_at_call 59; exact Calls.quiet_of (C.out _ (belowN X0.out.1 _))))
    go_wp2
    go_ret2
    exact ⟨by rw [V1.out, V2.out]; rfl, belowN X0.out.1 _⟩
  · have V1 := hide (show rN T x y = (T.ps.getD (rpl T.ps y + 1) 0 - y) * rfN T.ds (T.cell (rpl T.ps y)) x + (y - T.ps.getD (rpl T.ps y) 0) * rfN T.ds (T.cell (rpl T.ps y + 1)) x by unfold rN; rw [rfN.eq_def T.ps, if_neg hn])
    have V2 := hide (show rD T x y = rfD T.ds x * (T.ps.getD (rpl T.ps y + 1) 0 - T.ps.getD (rpl T.ps y) 0) by unfold rD; rw [rfD.eq_def T.ps, if_neg hn])
    obtain ⟨r1, r2, r3⟩ := rf_parts v.pA v.p1 h.2 hn
    have PL := hide (fun W (hB : Below w.heap.size w W) => rfplace_any T.ps A2 k2 y W (HT.out.2.1.below hB) v.pA (by omega) (by omega) h.2)
    have bd := fun j (hj : j < T.ps.length) => rfN_bd v.dA v.d1 h.1 (fun i hi => v.cB j i hj hi)
    have f0 := bd (rpl T.ps y) (by omega)
    have f1 := bd (rpl T.ps y + 1) (by omega)
    have g0 := v.pB (rpl T.ps y) (by omega)
    have g1 := v.pB (rpl T.ps y + 1) (by omega)
    obtain ⟨pb, po, rfl, hpb, hat⟩ := HT.out.2.1.at_ (by omega)
    generalize rpl T.ps y = i at *
    obtain ⟨b, off, R1, c1, rfl, hb, q0, C0⟩ := HRow.out i (by omega)
    obtain ⟨b', off', R2, c2, e2, hb', q1, C1⟩ := HRow.out (i + 1) (by omega)
    cases e2
    have c0 := hat i (by omega)
    have c1' := hat (i + 1) (by omega)
    clear hat bd v h HRow
    generalize T.ps.getD i 0 = p at *
    generalize T.ps.getD (i + 1) 0 = q at *
    generalize rfN T.ds (T.cell i) x = n at *
    generalize rfN T.ds (T.cell (i + 1)) x = m at *
    generalize rfD T.ds x = d at *
    have s1 := IntWalk.i64_in (q - y) (by omega)
    have s2 := IntWalk.i64_in (y - p) (by omega)
    have s3 := IntWalk.i64_in (q - p) (by omega)
    have b1 : 0 ≤ n * (q - y) := Int.mul_nonneg f0.1 (by omega)
    have b2 : 0 ≤ m * (y - p) := Int.mul_nonneg f1.1 (by omega)
    have b3 : n * (q - y) ≤ (4194304 * 2592000) * 10000 := Int.mul_le_mul (by omega) (by omega) (by omega) (by omega)
    have b4 : m * (y - p) ≤ (4194304 * 2592000) * 10000 := Int.mul_le_mul (by omega) (by omega) (by omega) (by omega)
    have b5 : 0 ≤ d * (q - p) := Int.mul_nonneg (by omega) (by omega)
    have b6 : d * (q - p) ≤ 2592000 * 10000 := Int.mul_le_mul (by omega) (by omega) (by omega) (by omega)
    have s4 := IntWalk.i64_in (n * (q - y)) (by omega)
    have s5 := IntWalk.i64_in (m * (y - p)) (by omega)
    have s6 := IntWalk.i64_in (n * (q - y) + m * (y - p)) (by omega)
    have s7 := IntWalk.i64_in (d * (q - p)) (by omega)
    have s8 : IntKind.i64.wrap ((i : Int) + 1) = ((i + 1 : Nat) : Int) := (IntWalk.i64_in ((i : Int) + 1) (by omega)).trans (by omega)
    have u0 : ((i + 1 : Nat) : Int) < (T.ps.length : Int) := by omega
    have u1 : (i : Int) < (T.ps.length : Int) := by omega
    have u2 : (0 : Int) ≤ (i : Int) := by omega
    have u3 : (0 : Int) ≤ ((i + 1 : Nat) : Int) := by omega
    have u4 : ((T.ps.length : Int) == 1) = false := by simp; omega
    have u5 : ((i + 1 : Nat) : Int) < (T.rows.length : Int) := by omega
    have u6 : (i : Int) < (T.rows.length : Int) := by omega
    have RL := hide rl
    clear b1 b2 b3 b4 b5 b6 g0 g1 f0 f1 rl dbd r1
    have CE := hide (fun W (hB : Below w.heap.size w W) => And.intro ((hB.cell (p := ⟨b, off + i, none⟩) hb).trans q0) (And.intro ((hB.cell (p := ⟨b, off + (i + 1), none⟩) hb).trans q1) (And.intro ((hB.cell (p := ⟨pb, po + i, none⟩) hpb).trans c0) ((hB.cell (p := ⟨pb, po + (i + 1), none⟩) hpb).trans c1'))))
    clear q0 q1 c0 c1'
    have X0 := hide X
    have hr := X.r1
    have hc := CE.out _ X.1
    clear X
    go_enter Try.func36, Try.ntmps36
    go_wp2_with fail
    refine (PL.out _ X0.out.1).mono ?_
    rintro e w' ⟨rfl, rfl⟩
    go_wp2
    go_quiet ((go_at_call 59; exact Calls.quiet_of (C0.out _ (belowN X0.out.1 _))))
    go_wp2
    have X1 := hide (X0.out.drewN' nq)
    clear hr hc X0
    have hr := X1.out.r1
    have hc := CE.out _ X1.out.1
    generalize World.drewN _ nq = W1 at *
    go_quiet ((go_at_call 59; exact Calls.quiet_of (C1.out _ (belowN X1.out.1 _))))
    go_wp2
    have X2 := hide (X1.out.drewN' nq)
    clear hr hc X1
    have hr := X2.out.r1
    have hc := CE.out _ X2.out.1
    generalize World.drewN _ nq = W2 at *
    go_quiet (fail)
    go_wp2
    go_ret2
    exact ⟨by rw [V1.out, V2.out, Int.mul_comm _ n, Int.mul_comm _ m]; rfl, belowN X2.out.1 _⟩
end Go.Proofs.Ytjnifgheipmanaa
