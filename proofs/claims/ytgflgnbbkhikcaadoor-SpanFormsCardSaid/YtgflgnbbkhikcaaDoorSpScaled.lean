/- The program's scaled: the least span of four numbers n num / den, or the error; nothing that was there is turned. -/
import Derived.Test.YtgflgnbbkhikcaaDoorSpWide
namespace Go.Proofs.YtgflgnbbkhikcaaDoor
open Go.RowKit

structure Tr where
  x : Int
  y : Int
  z : Int
def Tr.lo (t : Tr) : Int := scLo t.x t.y t.z
def Tr.hi (t : Tr) : Int := scHi t.x t.y t.z
def Tr.er (t : Tr) : Int := scE t.x t.y t.z
def Tr.Ok (t : Tr) : Prop := t.z ≠ 0 ∧ ((t.x * t.y).natAbs < 18446744073709551616 ∨ t.z.natAbs = 1) ∧ -9223372036854775808 ≤ t.x ∧ t.x ≤ 9223372036854775807 ∧ -9223372036854775808 ≤ t.y ∧ t.y ≤ 9223372036854775807 ∧ -9223372036854775808 ≤ t.z ∧ t.z ≤ 9223372036854775807
theorem scaleT_any (t : Tr) (w : World) (h : t.Ok) : Calls Tryd.prog 60 #[.int .i64 t.x, .int .i64 t.y, .int .i64 t.z] w fun e w' => e = .returned (.tuple #[.int .i64 t.lo, .int .i64 t.hi, .int .i64 t.er]) ∧ Below w.heap.size w w' :=
  scale_any t.x t.y t.z w h.1 h.2.1 h.2.2.1 h.2.2.2.1 h.2.2.2.2.1 h.2.2.2.2.2.1 h.2.2.2.2.2.2.1 h.2.2.2.2.2.2.2
def Ok4 (a b c d : Tr) : Prop := a.er = 0 ∧ b.er = 0 ∧ c.er = 0 ∧ d.er = 0
instance (a b c d : Tr) : Decidable (Ok4 a b c d) := by unfold Ok4; infer_instance
def lo4 (a b c d : Tr) : Int := min (min (min a.lo b.lo) c.lo) d.lo
def hi4 (a b c d : Tr) : Int := max (max (max a.hi b.hi) c.hi) d.hi
def s4E (a b c d : Tr) : Int := if Ok4 a b c d then resE (lo4 a b c d) (hi4 a b c d) else 5
def s4S (a b c d : Tr) : Sp := if Ok4 a b c d then resS (lo4 a b c d) (hi4 a b c d) else Sp.zero
theorem s4_no {a b c d : Tr} (h : ¬ Ok4 a b c d) : s4E a b c d = 5 ∧ s4S a b c d = Sp.zero := by simp [s4E, s4S, h]
theorem s4_yes {a b c d : Tr} (h : Ok4 a b c d) : s4E a b c d = resE (lo4 a b c d) (hi4 a b c d) ∧ s4S a b c d = resS (lo4 a b c d) (hi4 a b c d) := by simp [s4E, s4S, h]
/-- what the rounds have gathered -/
def Acc (a b c d : Tr) (K lo hi : Int) : Prop :=
  (K = 0 ∧ lo = 0 ∧ hi = 0) ∨ (K = 1 ∧ a.er = 0 ∧ lo = a.lo ∧ hi = a.hi) ∨ (K = 2 ∧ a.er = 0 ∧ b.er = 0 ∧ lo = min a.lo b.lo ∧ hi = max a.hi b.hi) ∨
    (K = 3 ∧ a.er = 0 ∧ b.er = 0 ∧ c.er = 0 ∧ lo = min (min a.lo b.lo) c.lo ∧ hi = max (max a.hi b.hi) c.hi) ∨ (K = 4 ∧ Ok4 a b c d ∧ lo = lo4 a b c d ∧ hi = hi4 a b c d)
theorem i64_lo (t : Tr) (h : t.er = 0) : -9223372036854775808 ≤ t.lo ∧ t.lo ≤ 9223372036854775807 ∧ -9223372036854775808 ≤ t.hi ∧ t.hi ≤ 9223372036854775807 := by
  by_cases hz : t.z = 0
  · simp [Tr.er, scE, hz] at h
  rcases scE_cases t.x t.y t.z hz with ⟨_, e2, e3, e4, e5⟩ | ⟨_, e1, _⟩ | ⟨_, _, e1, _⟩
  · have := i64B_iff.1 e2
    have := i64B_iff.1 e3
    unfold Tr.lo Tr.hi
    omega
  · unfold Tr.er at h; omega
  · unfold Tr.er at h; omega
set_option maxRecDepth 100000 in
set_option maxHeartbeats 8000000 in
theorem scaled_any (a b c d : Tr) (w : World) (ha : a.Ok) (hb : b.Ok) (hc : c.Ok) (hd : d.Ok) : Calls Tryd.prog 41 #[.agg #[.int .i64 a.x, .int .i64 a.y, .int .i64 a.z, .int .i64 b.x, .int .i64 b.y, .int .i64 b.z, .int .i64 c.x, .int .i64 c.y, .int .i64 c.z, .int .i64 d.x, .int .i64 d.y, .int .i64 d.z]] w (RetSE (s4S a b c d) (s4E a b c d) w) := by
  have i0 : ∀ w, (Instr.index 54 (.agg #[.int .i64 a.x, .int .i64 a.y, .int .i64 a.z, .int .i64 b.x, .int .i64 b.y, .int .i64 b.z, .int .i64 c.x, .int .i64 c.y, .int .i64 c.z, .int .i64 d.x, .int .i64 d.y, .int .i64 d.z]) (.int .i64 0)).run Tryd.prog w = .ok (.agg #[.int .i64 a.x, .int .i64 a.y, .int .i64 a.z]) w := fun _ => by kernel_rfl
  have i1 : ∀ w, (Instr.index 54 (.agg #[.int .i64 a.x, .int .i64 a.y, .int .i64 a.z, .int .i64 b.x, .int .i64 b.y, .int .i64 b.z, .int .i64 c.x, .int .i64 c.y, .int .i64 c.z, .int .i64 d.x, .int .i64 d.y, .int .i64 d.z]) (.int .i64 1)).run Tryd.prog w = .ok (.agg #[.int .i64 b.x, .int .i64 b.y, .int .i64 b.z]) w := fun _ => by kernel_rfl
  have i2 : ∀ w, (Instr.index 54 (.agg #[.int .i64 a.x, .int .i64 a.y, .int .i64 a.z, .int .i64 b.x, .int .i64 b.y, .int .i64 b.z, .int .i64 c.x, .int .i64 c.y, .int .i64 c.z, .int .i64 d.x, .int .i64 d.y, .int .i64 d.z]) (.int .i64 2)).run Tryd.prog w = .ok (.agg #[.int .i64 c.x, .int .i64 c.y, .int .i64 c.z]) w := fun _ => by kernel_rfl
  have i3 : ∀ w, (Instr.index 54 (.agg #[.int .i64 a.x, .int .i64 a.y, .int .i64 a.z, .int .i64 b.x, .int .i64 b.y, .int .i64 b.z, .int .i64 c.x, .int .i64 c.y, .int .i64 c.z, .int .i64 d.x, .int .i64 d.y, .int .i64 d.z]) (.int .i64 3)).run Tryd.prog w = .ok (.agg #[.int .i64 d.x, .int .i64 d.y, .int .i64 d.z]) w := fun _ => by kernel_rfl
  have X := (((Own.start w).alloc #[.int .i64 a.x, .int .i64 a.y, .int .i64 a.z, .int .i64 b.x, .int .i64 b.y, .int .i64 b.z, .int .i64 c.x, .int .i64 c.y, .int .i64 c.z, .int .i64 d.x, .int .i64 d.y, .int .i64 d.z] 54).alloc #[.int .i64 0, .int .i64 0] 23).alloc #[.int .i64 0, .int .i64 0] 23
  simp only [World.size_alloc] at X
  have HA := hide ha
  have HB := hide hb
  have HC := hide hc
  have HD := hide hd
  clear ha hb hc hd
  go_enter Tryd.func41, Tryd.ntmps41
  go_wp2
  go_loopw [11] (fun v wr => ∃ K lo hi : Int, v = .int .i64 K ∧ Acc a b c d K lo hi ∧
      Own w wr [(w.heap.size + 1 + 1, 23, #[.int .i64 lo, .int .i64 hi]), (w.heap.size + 1, 23, #[.int .i64 0, .int .i64 0]), (w.heap.size, 54, #[.int .i64 a.x, .int .i64 a.y, .int .i64 a.z, .int .i64 b.x, .int .i64 b.y, .int .i64 b.z, .int .i64 c.x, .int .i64 c.y, .int .i64 c.z, .int .i64 d.x, .int .i64 d.y, .int .i64 d.z])]) (fun v _ => (4 - intOf v).toNat)
  case atStart => exact ⟨0, 0, 0, rfl, .inl ⟨rfl, rfl, rfl⟩, X⟩
  case round =>
    clear X
    obtain ⟨K, lo, hi, rfl, hacc, X⟩ := hrel
    rcases hacc with ⟨rfl, hlo, hhi⟩ | ⟨rfl, q1, hlo, hhi⟩ | ⟨rfl, q1, q2, hlo, hhi⟩ | ⟨rfl, q1, q2, q3, hlo, hhi⟩ | ⟨rfl, q1, hlo, hhi⟩
    · skip
      have HLO := hide hlo
      have HHI := hide hhi
      clear hlo hhi 
      have hr := X.r3
      go_wp2_with fail
      refine (scaleT_any a _ HA.out).mono ?_
      rintro e w1 ⟨rfl, hb⟩
      have X1 := (X.alloc #[.int .i64 a.x, .int .i64 a.y, .int .i64 a.z] 53).to hb
      clear hb hr
      have hr := X1.r4
      by_cases er : a.er = 0
      · have ER := hide er
        have bd := i64_lo a er
        have e1 : (a.er == 0) = true := by simp [er]
        have e2 : (a.er != 0) = false := by simp [er]
        clear er
        go_wp2
        go_roundw
        case measure => simp [intOf]
        case rel => exact ⟨1, a.lo, a.hi, rfl, .inr (.inl ⟨rfl, ER.out, rfl, rfl⟩), (X1.tail.set0 (by omega) (by simp; omega) 0 _).set0 (by omega) (by simp; omega) 1 _⟩
      · have HN := hide (s4_no (a := a) (b := b) (c := c) (d := d) (fun h => er h.1))
        have e1 : (a.er == 0) = false := by simp [er]
        have e2 : (a.er != 0) = true := by simp [er]
        clear er
        go_wp2
        exact bodyPost_ret (v := .tuple #[Sp.zero.val, .int .i64 5]) (by simp [results, Tryd.results41, hr, Sp.zero, go_sem]) rfl (RetSE.mk (by have HX := X1.1; have hz := HX.size; go_grown) HN.out.2 HN.out.1)
    · have Q1 := hide q1
      have HLO := hide hlo
      have HHI := hide hhi
      clear hlo hhi q1
      have hr := X.r3
      go_wp2_with fail
      refine (scaleT_any b _ HB.out).mono ?_
      rintro e w1 ⟨rfl, hb⟩
      have X1 := (X.alloc #[.int .i64 b.x, .int .i64 b.y, .int .i64 b.z] 53).to hb
      clear hb hr
      have hr := X1.r4
      by_cases er : b.er = 0
      · have ER := hide er
        have bd := i64_lo b er
        have e1 : (b.er == 0) = true := by simp [er]
        have e2 : (b.er != 0) = false := by simp [er]
        clear er
        go_wp2
        go_roundw
        case measure => simp [intOf]
        case rel => exact ⟨2, (if b.lo < lo then b.lo else lo), (if hi < b.hi then b.hi else hi), rfl, .inr (.inr (.inl ⟨rfl, Q1.out, ER.out, by rw [HLO.out]; split <;> omega, by rw [HHI.out]; split <;> omega⟩)), (X1.tail.set0 (by omega) (by simp; omega) 0 _).set0 (by omega) (by simp; omega) 1 _⟩
      · have HN := hide (s4_no (a := a) (b := b) (c := c) (d := d) (fun h => er h.2.1))
        have e1 : (b.er == 0) = false := by simp [er]
        have e2 : (b.er != 0) = true := by simp [er]
        clear er
        go_wp2
        exact bodyPost_ret (v := .tuple #[Sp.zero.val, .int .i64 5]) (by simp [results, Tryd.results41, hr, Sp.zero, go_sem]) rfl (RetSE.mk (by have HX := X1.1; have hz := HX.size; go_grown) HN.out.2 HN.out.1)
    · have Q1 := hide q1
      have Q2 := hide q2
      have HLO := hide hlo
      have HHI := hide hhi
      clear hlo hhi q1 q2
      have hr := X.r3
      go_wp2_with fail
      refine (scaleT_any c _ HC.out).mono ?_
      rintro e w1 ⟨rfl, hb⟩
      have X1 := (X.alloc #[.int .i64 c.x, .int .i64 c.y, .int .i64 c.z] 53).to hb
      clear hb hr
      have hr := X1.r4
      by_cases er : c.er = 0
      · have ER := hide er
        have bd := i64_lo c er
        have e1 : (c.er == 0) = true := by simp [er]
        have e2 : (c.er != 0) = false := by simp [er]
        clear er
        go_wp2
        go_roundw
        case measure => simp [intOf]
        case rel => exact ⟨3, (if c.lo < lo then c.lo else lo), (if hi < c.hi then c.hi else hi), rfl, .inr (.inr (.inr (.inl ⟨rfl, Q1.out, Q2.out, ER.out, by rw [HLO.out]; split <;> omega, by rw [HHI.out]; split <;> omega⟩))), (X1.tail.set0 (by omega) (by simp; omega) 0 _).set0 (by omega) (by simp; omega) 1 _⟩
      · have HN := hide (s4_no (a := a) (b := b) (c := c) (d := d) (fun h => er h.2.2.1))
        have e1 : (c.er == 0) = false := by simp [er]
        have e2 : (c.er != 0) = true := by simp [er]
        clear er
        go_wp2
        exact bodyPost_ret (v := .tuple #[Sp.zero.val, .int .i64 5]) (by simp [results, Tryd.results41, hr, Sp.zero, go_sem]) rfl (RetSE.mk (by have HX := X1.1; have hz := HX.size; go_grown) HN.out.2 HN.out.1)
    · have Q1 := hide q1
      have Q2 := hide q2
      have Q3 := hide q3
      have HLO := hide hlo
      have HHI := hide hhi
      clear hlo hhi q1 q2 q3
      have hr := X.r3
      go_wp2_with fail
      refine (scaleT_any d _ HD.out).mono ?_
      rintro e w1 ⟨rfl, hb⟩
      have X1 := (X.alloc #[.int .i64 d.x, .int .i64 d.y, .int .i64 d.z] 53).to hb
      clear hb hr
      have hr := X1.r4
      by_cases er : d.er = 0
      · have ER := hide er
        have bd := i64_lo d er
        have e1 : (d.er == 0) = true := by simp [er]
        have e2 : (d.er != 0) = false := by simp [er]
        clear er
        go_wp2
        go_roundw
        case measure => simp [intOf]
        case rel => exact ⟨4, (if d.lo < lo then d.lo else lo), (if hi < d.hi then d.hi else hi), rfl, .inr (.inr (.inr (.inr ⟨rfl, ⟨Q1.out, Q2.out, Q3.out, ER.out⟩, by rw [HLO.out]; unfold lo4; split <;> omega, by rw [HHI.out]; unfold hi4; split <;> omega⟩))), (X1.tail.set0 (by omega) (by simp; omega) 0 _).set0 (by omega) (by simp; omega) 1 _⟩
      · have HN := hide (s4_no (a := a) (b := b) (c := c) (d := d) (fun h => er h.2.2.2))
        have e1 : (d.er == 0) = false := by simp [er]
        have e2 : (d.er != 0) = true := by simp [er]
        clear er
        go_wp2
        exact bodyPost_ret (v := .tuple #[Sp.zero.val, .int .i64 5]) (by simp [results, Tryd.results41, hr, Sp.zero, go_sem]) rfl (RetSE.mk (by have HX := X1.1; have hz := HX.size; go_grown) HN.out.2 HN.out.1)
    · have HY := hide (s4_yes q1)
      have HLO := hide hlo
      have HHI := hide hhi
      clear hlo hhi q1
      have hr := X.r3
      go_wp2_with fail
      refine (result_any _ _ _).mono ?_
      rintro e w1 ⟨rfl, hb⟩
      replace X := X.to hb
      clear hb hr
      have hr := X.r3
      go_wp2
      exact bodyPost_ret (v := .tuple #[(resS lo hi).val, .int .i64 (resE lo hi)]) (by simp [results, Tryd.results41, hr, go_sem]) rfl (RetSE.mk (by have HX := X.1; have hz := HX.size; go_grown) (by rw [HY.out.2, HLO.out, HHI.out]) (by rw [HY.out.1, HLO.out, HHI.out]))
end Go.Proofs.YtgflgnbbkhikcaaDoor
