/- The program's Step and Drained: the store, the number, and the error, for every input; nothing that was there is turned. -/
import Derived.Test.YtljaibbmceknfaaLossStep
import Derived.BigRegion
import Derived.Deep.RegionHeld3
namespace Go.Proofs.Ytljaibbmceknfaa
open Go.RowKit

def outE (c : Cls) (s : Sto) (d t : Int) : Int := if validSt c s = true then (if inB d 4194304 = true ∧ lenB t = true then 0 else 2) else 1
def outS (c : Cls) (s : Sto) (d t : Int) : Sto := if outE c s d t = 0 then stepS c s d t else Sto.zero
def outN (c : Cls) (s : Sto) (d t : Int) : Int := if outE c s d t = 0 then runoff c s d else 0
theorem out_cases (c : Cls) (s : Sto) (d t : Int) :
    (validSt c s = false ∧ outE c s d t = 1 ∧ outS c s d t = Sto.zero ∧ outN c s d t = 0) ∨
    (validSt c s = true ∧ inB d 4194304 = false ∧ outE c s d t = 2 ∧ outS c s d t = Sto.zero ∧ outN c s d t = 0) ∨
    (validSt c s = true ∧ inB d 4194304 = true ∧ lenB t = false ∧ outE c s d t = 2 ∧ outS c s d t = Sto.zero ∧ outN c s d t = 0) ∨
    (validSt c s = true ∧ inB d 4194304 = true ∧ lenB t = true ∧ outE c s d t = 0 ∧ outS c s d t = stepS c s d t ∧ outN c s d t = runoff c s d) := by
  unfold outS outN outE
  cases validSt c s <;> cases inB d 4194304 <;> cases lenB t <;> simp
theorem lenB_iff {t : Int} : lenB t = true ↔ 1 ≤ t ∧ t ≤ 86400 := by simp [lenB]

set_option maxHeartbeats 2000000 in
theorem Step_any (c : Cls) (s : Sto) (d t : Int) (w : World) (hnm : c.nm.size ≤ maxLen) :
    Calls Try.prog 12 #[c.val, s.val, .int .i64 d, .int .i64 t] w
      fun e w' => e = .returned (.tuple #[(outS c s d t).val, .int .i64 (outN c s d t), .int .i64 (outE c s d t)]) ∧ Below w.heap.size w w' := by
  have B0 := ((Blk.new w 23 #[.string c.nm, .int .i64 c.se, .int .i64 c.we, .int .i64 c.ro, .int .i64 c.dr]).alloc (.cells #[.int .i64 s.wt, .int .i64 s.he] 25)).alloc (.cells #[.int .i64 0, .int .i64 0] 25)
  have B1 := (Blk.new (w.alloc (.cells #[.string c.nm, .int .i64 c.se, .int .i64 c.we, .int .i64 c.ro, .int .i64 c.dr] 23)) 25 #[.int .i64 s.wt, .int .i64 s.he]).alloc (.cells #[.int .i64 0, .int .i64 0] 25)
  have B2 := Blk.new ((w.alloc (.cells #[.string c.nm, .int .i64 c.se, .int .i64 c.we, .int .i64 c.ro, .int .i64 c.dr] 23)).alloc (.cells #[.int .i64 s.wt, .int .i64 s.he] 25)) 25 #[.int .i64 0, .int .i64 0]
  simp only [World.size_alloc] at B0 B1 B2
  rcases out_cases c s d t with ⟨t1, t2, t3, t4⟩ | ⟨t1, u1, t2, t3, t4⟩ | ⟨t1, u1, u2, t2, t3, t4⟩ | ⟨t1, u1, u2, t2, t3, t4⟩
  all_goals
    have T := hide (And.intro t2 (And.intro t3 t4))
    clear t2 t3 t4
    go_enter Try.func12, Try.ntmps12
    go_wp2_with fail
    refine (validStore_any c s _ hnm).mono ?_
    rintro e w1 ⟨rfl, hb⟩
    have C0 := B0.below hb (by go_size)
    have C1 := B1.below hb (by go_size)
    have C2 := B2.below hb (by go_size)
    have Hg : Hid (Below w.heap.size w w1) := hide (by refine Below.trans ?_ (hb.mono (by go_size)); go_grown)
    clear hb B0 B1 B2
    have hc := C0.cell
    have hd := C1.cell
    have he := C2.cell
    have hf := C2.frozen
    have hsz := C2.lt
    go_wp2_with (first | (go_at_call 36; refine (within_any _ _ _).mono ?_; rintro e w' ⟨rfl, rfl⟩) | (go_at_call 37; refine (length_any _ _).mono ?_; rintro e w' ⟨rfl, rfl⟩) | fail)
  · refine bodyPost_ret (v := .tuple #[.agg #[.int .i64 0, .int .i64 0], .int .i64 0, .int .i64 1]) (by simp [results, Try.results12, he, go_sem]) rfl ⟨?_, ?_⟩
    · rw [T.out.1, T.out.2.1, T.out.2.2]; rfl
    · exact below_set (below_set Hg.out (by omega) _) (by omega) _
  · refine bodyPost_ret (v := .tuple #[.agg #[.int .i64 0, .int .i64 0], .int .i64 0, .int .i64 2]) (by simp [results, Try.results12, he, go_sem]) rfl ⟨?_, ?_⟩
    · rw [T.out.1, T.out.2.1, T.out.2.2]; rfl
    · exact below_set (below_set Hg.out (by omega) _) (by omega) _
  · refine bodyPost_ret (v := .tuple #[.agg #[.int .i64 0, .int .i64 0], .int .i64 0, .int .i64 2]) (by simp [results, Try.results12, he, go_sem]) rfl ⟨?_, ?_⟩
    · rw [T.out.1, T.out.2.1, T.out.2.2]; rfl
    · exact below_set (below_set Hg.out (by omega) _) (by omega) _
  · have hv := hide (validSt_iff t1)
    have hl := lenB_iff.1 u2
    have hd1 := inB_iff.1 u1
    refine (step_any c s d t _ hv.out.1 hv.out.2 hd1.1 hd1.2 (by omega) hl.2).mono ?_
    rintro e w2 ⟨rfl, hb⟩
    have D2 := C2.below hb C2.lt
    have Hg2 : Hid (Below w.heap.size w w2) := hide (below_via Hg.out (by omega) hb)
    have he2 := D2.cell
    have hf2 := D2.frozen
    have hsz2 := D2.lt
    clear hc hd he hf hb C0 C1 C2
    go_wp2
    refine bodyPost_ret (v := .tuple #[(stepS c s d t).val, .int .i64 (runoff c s d), .int .i64 0]) (by simp [results, Try.results12, he2, hsz2, go_sem]) rfl ⟨?_, ?_⟩
    · rw [T.out.1, T.out.2.1, T.out.2.2]
    · exact (below_set (below_set Hg2.out (by omega) _) (by omega) _).alloc (by have := Hg2.out.size; simp [World.setCell]; omega) _

def drE (c : Cls) (s : Sto) (t : Int) : Int := outE c s 0 t
def drN (c : Cls) (s : Sto) (t : Int) : Int := if drE c s t = 0 then (s.he - (outS c s 0 t).he) * (1000 - c.se) + (s.wt - (outS c s 0 t).wt) * 1000 else 0
theorem drN_bad {c : Cls} {s : Sto} {t : Int} (h : ¬ drE c s t = 0) : drN c s t = 0 := by simp [drN, h]
theorem outS_bad {c : Cls} {s : Sto} {d t : Int} (h : ¬ outE c s d t = 0) : outS c s d t = Sto.zero := by simp [outS, h]
theorem outE_ok {c : Cls} {s : Sto} {d t : Int} (h : outE c s d t = 0) : RightP c ∧ HoldsP c s ∧ 0 ≤ d ∧ d ≤ 4194304 ∧ 1 ≤ t ∧ t ≤ 86400 ∧ outS c s d t = stepS c s d t ∧ outN c s d t = runoff c s d ∧ validSt c s = true := by
  rcases out_cases c s d t with ⟨_, e, _⟩ | ⟨_, _, e, _⟩ | ⟨_, _, _, e, _⟩ | ⟨a, b, f, e, g, k⟩
  · rw [e] at h; omega
  · rw [e] at h; omega
  · rw [e] at h; omega
  · obtain ⟨h1, h2⟩ := validSt_iff a
    have h3 := inB_iff.1 b
    have h4 := lenB_iff.1 f
    exact ⟨h1, h2, h3.1, h3.2, h4.1, h4.2, g, k, a⟩
theorem step_le {c : Cls} {s : Sto} {t : Int} (hr : RightP c) (h : HoldsP c s) (ht : 1 ≤ t) (ht' : t ≤ 86400) : (stepS c s 0 t).wt ≤ s.wt ∧ (stepS c s 0 t).he ≤ s.he := by
  have h1 := wetBy_bd h (Int.le_refl 0)
  have h2 := heldBy_bd h (Int.le_refl 0)
  have e1 : wetBy c s 0 = 0 := by omega
  have e2 : heldBy c s 0 = 0 := by omega
  have hr' := hr
  unfold RightP at hr'
  have h' := h
  unfold HoldsP at h'
  simp only [stepS, stepWt, stepHe, e1, e2, Int.add_zero, if_true]
  have h3 := mul3_bd (a := s.he) (b := c.dr) (t := t) (by omega) (by omega) (by omega) (by omega) (by omega) ht'
  have h4 := lessI_bd (n := s.he) (m := s.he * c.dr * t) (k := 3600000) (by omega) (by omega) (by omega)
  have h5 : 0 ≤ c.we * t := Int.mul_nonneg (by omega) (by omega)
  have h6 := lessI_bd (n := s.wt) (m := c.we * t) (k := 86400) (by omega) (by omega) (by omega)
  omega
theorem wrap_dr {a b k : Int} (ha : 0 ≤ a) (ha' : a ≤ 4194304) (hb : 0 ≤ b) (hb' : b ≤ 4194304) (hk : 0 ≤ k) (hk' : k ≤ 1000) : wrap64 (wrap64 (a * (1000 - k)) + b * 1000) = a * (1000 - k) + b * 1000 := by
  have h3 : 0 ≤ a * (1000 - k) := Int.mul_nonneg ha (by omega)
  have h4 : a * (1000 - k) ≤ 4194304 * 1000 := Int.mul_le_mul ha' (by omega) (by omega) (by omega)
  rw [IntWalk.wrap64_in (a * (1000 - k)) (by omega), IntWalk.wrap64_in _ (by omega)]

set_option maxHeartbeats 2000000 in
theorem Drained_any (c : Cls) (s : Sto) (t : Int) (w : World) (hnm : c.nm.size ≤ maxLen) :
    Calls Try.prog 13 #[c.val, s.val, .int .i64 t] w
      fun e w' => e = .returned (.tuple #[(outS c s 0 t).val, .int .i64 (drN c s t), .int .i64 (drE c s t)]) ∧ Below w.heap.size w w' := by
  have B0 := ((Blk.new w 23 #[.string c.nm, .int .i64 c.se, .int .i64 c.we, .int .i64 c.ro, .int .i64 c.dr]).alloc (.cells #[.int .i64 s.wt, .int .i64 s.he] 25)).alloc (.cells #[.int .i64 0, .int .i64 0] 25)
  have B1 := (Blk.new (w.alloc (.cells #[.string c.nm, .int .i64 c.se, .int .i64 c.we, .int .i64 c.ro, .int .i64 c.dr] 23)) 25 #[.int .i64 s.wt, .int .i64 s.he]).alloc (.cells #[.int .i64 0, .int .i64 0] 25)
  have B2 := Blk.new ((w.alloc (.cells #[.string c.nm, .int .i64 c.se, .int .i64 c.we, .int .i64 c.ro, .int .i64 c.dr] 23)).alloc (.cells #[.int .i64 s.wt, .int .i64 s.he] 25)) 25 #[.int .i64 0, .int .i64 0]
  simp only [World.size_alloc] at B0 B1 B2
  by_cases t0 : outE c s 0 t = 0
  all_goals
    go_enter Try.func13, Try.ntmps13
    go_wp2_with fail
    refine (Step_any c s 0 t _ hnm).mono ?_
    rintro e w1 ⟨rfl, hb⟩
    have C0 := B0.below hb (by go_size)
    have C1 := B1.below hb (by go_size)
    have C2 := B2.below hb (by go_size)
    have Hg : Hid (Below w.heap.size w w1) := hide (by refine Below.trans ?_ (hb.mono (by go_size)); go_grown)
    clear hb B0 B1 B2
    have hc := C0.cell
    have hd := C1.cell
    have he := C2.cell
    have hf := C2.frozen
    have hsz := C2.lt
    have hsz0 := C0.lt
    have hsz1 := C1.lt
    have T0 := hide t0
  · have e0 : (outE c s 0 t == 0) = true := by simp [T0.out]
    have e1 : (outE c s 0 t != 0) = false := by simp [T0.out]
    clear t0
    have P := outE_ok T0.out
    have P1 := step_holds (t := t) P.1 P.2.1 (Int.le_refl 0) (by omega) P.2.2.2.2.2.1
    have P2 := step_le P.1 P.2.1 P.2.2.2.2.1 P.2.2.2.2.2.1
    rw [← P.2.2.2.2.2.2.1] at P1 P2
    obtain ⟨q1, q2, q3, q4⟩ := P1
    obtain ⟨q5, q6⟩ := P2
    obtain ⟨⟨r1, r2⟩, ⟨r3, r4⟩, ⟨r5, r6⟩, r7, r8⟩ := P.1.cut
    obtain ⟨p1, p2, p3, p4⟩ := P.2.1
    clear P
    go_wp2
    have E0 := C0.alloc (.cells #[.int .i64 (outS c s 0 t).wt, .int .i64 (outS c s 0 t).he] 25)
    have E1 := C1.alloc (.cells #[.int .i64 (outS c s 0 t).wt, .int .i64 (outS c s 0 t).he] 25)
    have E2 := C2.alloc (.cells #[.int .i64 (outS c s 0 t).wt, .int .i64 (outS c s 0 t).he] 25)
    have E3 := Blk.new w1 25 #[.int .i64 (outS c s 0 t).wt, .int .i64 (outS c s 0 t).he]
    have hg1 := Hg.out.alloc Hg.out.size (.cells #[.int .i64 (outS c s 0 t).wt, .int .i64 (outS c s 0 t).he] 25)
    generalize w1.alloc (.cells #[.int .i64 (outS c s 0 t).wt, .int .i64 (outS c s 0 t).he] 25) = W at *
    have HG := hide hg1
    have hneq : w.heap.size + 1 + 1 ≠ w1.heap.size := by omega
    have hneq0 : w.heap.size ≠ w.heap.size + 1 + 1 := by omega
    have hneq1 : w.heap.size + 1 + 1 ≠ w.heap.size := by omega
    clear hg1 hc hd he hf C0 C1 C2
    have hc := E0.cell
    have hd := E1.cell
    have he := E2.cell
    have hf := E2.frozen
    have hx := E3.cell
    go_region_held3 (fun w' => w'.cell? ⟨w.heap.size, 1, none⟩ = some (.int .i64 c.se) ∧ w'.cell? ⟨w.heap.size + 1, 0, none⟩ = some (.int .i64 s.wt) ∧ w'.cell? ⟨w.heap.size + 1, 1, none⟩ = some (.int .i64 s.he) ∧ w'.cell? ⟨w1.heap.size, 0, none⟩ = some (.int .i64 (outS c s 0 t).wt) ∧ w'.cell? ⟨w1.heap.size, 1, none⟩ = some (.int .i64 (outS c s 0 t).he)) (go_keep) (fail)
    have g1 : 0 ≤ (s.he - (outS c s 0 t).he) * (1000 - c.se) := Int.mul_nonneg (by omega) (by omega)
    have g2 : (s.he - (outS c s 0 t).he) * (1000 - c.se) ≤ 1000000 * 1000 := Int.mul_le_mul (by omega) (by omega) (by omega) (by omega)
    have HX := hide he
    go_wp2
    refine bodyPost_ret (v := .tuple #[(outS c s 0 t).val, .int .i64 _, .int .i64 0]) (by simp [results, Try.results13, he, go_sem]; rfl) rfl ⟨?_, ?_⟩
    · have e9 : drN c s t = (s.he - (outS c s 0 t).he) * (1000 - c.se) + (s.wt - (outS c s 0 t).wt) * 1000 := by unfold drN drE; rw [if_pos T0.out]
      have e8 : drE c s t = 0 := T0.out
      rw [e9, e8]
      simp (disch := omega) only [IntWalk.i64_in]
    · exact (below_set (below_set HG.out (b := w.heap.size + 1 + 1) (o := 0) (by omega) _) (b := w.heap.size + 1 + 1) (o := 1) (by omega) _).drew
  · have e0 : (outE c s 0 t == 0) = false := by simp [T0.out]
    have e1 : (outE c s 0 t != 0) = true := by simp [T0.out]
    clear t0
    go_wp2
    refine bodyPost_ret (v := .tuple #[.agg #[.int .i64 0, .int .i64 0], .int .i64 0, .int .i64 (outE c s 0 t)]) (by simp [results, Try.results13, he, hsz, go_sem]) rfl ⟨?_, ?_⟩
    · rw [drN_bad T0.out, outS_bad T0.out]; rfl
    · exact (below_set (below_set Hg.out (by omega) _) (by omega) _).alloc (by have := Hg.out.size; simp [World.setCell]; omega) _
end Go.Proofs.Ytljaibbmceknfaa
