/- The program's step, valid, ValidStore, Step and Drained: what each returns; nothing that was there is turned. -/
import Derived.Test.YtljaibbmceknfaaLoss
namespace Go.Proofs.Ytljaibbmceknfaa
open Go.RowKit

theorem step_parts {c : Cls} {s : Sto} {d t : Int} (h : HoldsP c s) (hd : 0 ≤ d) :
    0 ≤ s.wt + wetBy c s d ∧ s.wt + wetBy c s d ≤ c.we ∧ 0 ≤ s.he + heldBy c s d ∧ s.he + heldBy c s d ≤ c.ro ∧
      (d = 0 → stepS c s d t = ⟨lessI (s.wt + wetBy c s d) (c.we * t) 86400, lessI (s.he + heldBy c s d) ((s.he + heldBy c s d) * c.dr * t) 3600000⟩) ∧
      (¬ d = 0 → stepS c s d t = ⟨s.wt + wetBy c s d, lessI (s.he + heldBy c s d) ((s.he + heldBy c s d) * c.dr * t) 3600000⟩) := by
  have h1 := wetBy_bd h hd
  have h2 := heldBy_bd h hd
  unfold HoldsP at h
  refine ⟨by omega, by omega, by omega, by omega, fun e => ?_, fun e => ?_⟩
  · simp only [stepS, stepWt, stepHe]; rw [if_pos e]
  · simp only [stepS, stepWt, stepHe]; rw [if_neg e]
set_option maxHeartbeats 1000000 in
theorem step_any (c : Cls) (s : Sto) (d t : Int) (w : World) (hr : RightP c) (h : HoldsP c s) (hd : 0 ≤ d) (hd' : d ≤ 4194304) (ht : 0 ≤ t) (ht' : t ≤ 86400) :
    Calls Try.prog 38 #[c.val, s.val, .int .i64 d, .int .i64 t] w
      fun e w' => e = .returned (.tuple #[(stepS c s d t).val, .int .i64 (runoff c s d)]) ∧ Below w.heap.size w w' := by
  by_cases h0 : d = 0
  · subst h0
    have H := hide (And.intro hr h)
    have S := hide (step_parts (t := t) h (Int.le_refl 0))
    clear hr h
    go_enter Try.func38, Try.ntmps38
    go_wp2_with fail
    have B0 := ((Blk.new w 23 #[.string c.nm, .int .i64 c.se, .int .i64 c.we, .int .i64 c.ro, .int .i64 c.dr]).alloc (.cells #[.int .i64 s.wt, .int .i64 s.he] 25)).alloc (.cells #[.int .i64 0, .int .i64 0] 25)
    have B1 := (Blk.new (w.alloc (.cells #[.string c.nm, .int .i64 c.se, .int .i64 c.we, .int .i64 c.ro, .int .i64 c.dr] 23)) 25 #[.int .i64 s.wt, .int .i64 s.he]).alloc (.cells #[.int .i64 0, .int .i64 0] 25)
    have B2 := Blk.new ((w.alloc (.cells #[.string c.nm, .int .i64 c.se, .int .i64 c.we, .int .i64 c.ro, .int .i64 c.dr] 23)).alloc (.cells #[.int .i64 s.wt, .int .i64 s.he] 25)) 25 #[.int .i64 0, .int .i64 0]
    simp only [World.size_alloc] at B0 B1 B2
    refine (rain_any c s 0 (w.heap.size + 1) _ H.out.1 H.out.2 hd hd' (by simp) (B1.cell 0) (B1.cell 1) (B1.frozen 0) (B1.frozen 1)).mono ?_
    rintro e w1 ⟨x, y, r, rfl, hx, hy, hrr, hb⟩
    have C1 : Blk w1 (w.heap.size + 1) 25 #[.int .i64 x, .int .i64 y] := ((B1.set_ 0 (.int .i64 x)).set_ 1 (.int .i64 y)).below hb (by go_size)
    have C0 := ((B0.off (b := w.heap.size + 1) (o := 0) (by omega) (.int .i64 x)).off (b := w.heap.size + 1) (o := 1) (by omega) (.int .i64 y)).below hb (by go_size)
    have C2 := ((B2.off (b := w.heap.size + 1) (o := 0) (by omega) (.int .i64 x)).off (b := w.heap.size + 1) (o := 1) (by omega) (.int .i64 y)).below hb (by go_size)
    have hg1 : Below w.heap.size w w1 := by refine Below.trans ?_ (hb.mono (by go_size)); go_grown
    clear B0 B1 B2 hb
    have Hx := hide (And.intro hx (And.intro hy hrr))
    clear hx hy hrr
    have c0 := C0.cell
    go_wp2_with fail
    refine (drain_dry c x y t (w.heap.size + 1) _ H.out.1 ?_ ?_ ?_ ?_ ht ht' C1.lt (C1.cell 0) (C1.cell 1) (C1.frozen 0) (C1.frozen 1)).mono ?_
    · rw [Hx.out.1]; exact S.out.1
    · rw [Hx.out.1]; exact S.out.2.1
    · rw [Hx.out.2.1]; exact S.out.2.2.1
    · rw [Hx.out.2.1]; exact S.out.2.2.2.1
    rintro e w2 ⟨x', y', rfl, hx', hy', hb2⟩
    have D1 : Blk w2 (w.heap.size + 1) 25 #[.int .i64 x', .int .i64 y'] := ((C1.set_ 1 (.int .i64 y')).set_ 0 (.int .i64 x')).below hb2 C1.lt
    have D2 := ((C2.off (b := w.heap.size + 1) (o := 1) (by omega) (.int .i64 y')).off (b := w.heap.size + 1) (o := 0) (by omega) (.int .i64 x')).below hb2 C2.lt
    have hg2 : Below w.heap.size w w2 := (below_set (below_set hg1 (b := w.heap.size + 1) (o := 1) (by omega) _) (b := w.heap.size + 1) (o := 0) (by omega) _).trans (hb2.mono hg1.size)
    clear C0 C1 C2 hb2 hg1 c0
    have Hx' := hide (And.intro hx' hy')
    clear hx' hy'
    have d1 := D1.cell
    have d2 := D2.cell
    have f2 := D2.frozen
    have Hg := hide hg2
    clear hg2
    go_wp2
    refine bodyPost_ret (v := .tuple #[.agg #[.int .i64 x', .int .i64 y'], .int .i64 r]) (by simp [results, Try.results38, d2, go_sem]) rfl ⟨?_, ?_⟩
    · have e := S.out.2.2.2.2.1 trivial
      rw [e, Hx.out.2.2, Hx'.out.1, Hx'.out.2, Hx.out.1, Hx.out.2.1]
    · exact below_set (below_set Hg.out (by omega) _) (by omega) _
  · have hd0 : (d == 0) = false := by simpa using h0
    have H := hide (And.intro hr h)
    have S := hide (step_parts (t := t) h hd)
    clear hr h
    go_enter Try.func38, Try.ntmps38
    go_wp2_with fail
    have B0 := ((Blk.new w 23 #[.string c.nm, .int .i64 c.se, .int .i64 c.we, .int .i64 c.ro, .int .i64 c.dr]).alloc (.cells #[.int .i64 s.wt, .int .i64 s.he] 25)).alloc (.cells #[.int .i64 0, .int .i64 0] 25)
    have B1 := (Blk.new (w.alloc (.cells #[.string c.nm, .int .i64 c.se, .int .i64 c.we, .int .i64 c.ro, .int .i64 c.dr] 23)) 25 #[.int .i64 s.wt, .int .i64 s.he]).alloc (.cells #[.int .i64 0, .int .i64 0] 25)
    have B2 := Blk.new ((w.alloc (.cells #[.string c.nm, .int .i64 c.se, .int .i64 c.we, .int .i64 c.ro, .int .i64 c.dr] 23)).alloc (.cells #[.int .i64 s.wt, .int .i64 s.he] 25)) 25 #[.int .i64 0, .int .i64 0]
    simp only [World.size_alloc] at B0 B1 B2
    refine (rain_any c s d (w.heap.size + 1) _ H.out.1 H.out.2 hd hd' (by simp) (B1.cell 0) (B1.cell 1) (B1.frozen 0) (B1.frozen 1)).mono ?_
    rintro e w1 ⟨x, y, r, rfl, hx, hy, hrr, hb⟩
    have C1 : Blk w1 (w.heap.size + 1) 25 #[.int .i64 x, .int .i64 y] := ((B1.set_ 0 (.int .i64 x)).set_ 1 (.int .i64 y)).below hb (by go_size)
    have C0 := ((B0.off (b := w.heap.size + 1) (o := 0) (by omega) (.int .i64 x)).off (b := w.heap.size + 1) (o := 1) (by omega) (.int .i64 y)).below hb (by go_size)
    have C2 := ((B2.off (b := w.heap.size + 1) (o := 0) (by omega) (.int .i64 x)).off (b := w.heap.size + 1) (o := 1) (by omega) (.int .i64 y)).below hb (by go_size)
    have hg1 : Below w.heap.size w w1 := by refine Below.trans ?_ (hb.mono (by go_size)); go_grown
    clear B0 B1 B2 hb
    have Hx := hide (And.intro hx (And.intro hy hrr))
    clear hx hy hrr
    have c0 := C0.cell
    go_wp2_with fail
    refine (drain_wet c y t (w.heap.size + 1) _ H.out.1 ?_ ?_ ht ht' C1.lt (C1.cell 1) (C1.frozen 1)).mono ?_
    · rw [Hx.out.2.1]; exact S.out.2.2.1
    · rw [Hx.out.2.1]; exact S.out.2.2.2.1
    rintro e w2 ⟨y', rfl, hy', hb2⟩
    have D1 : Blk w2 (w.heap.size + 1) 25 #[.int .i64 x, .int .i64 y'] := (C1.set_ 1 (.int .i64 y')).below hb2 C1.lt
    have D2 := (C2.off (b := w.heap.size + 1) (o := 1) (by omega) (.int .i64 y')).below hb2 C2.lt
    have hg2 : Below w.heap.size w w2 := (below_set hg1 (b := w.heap.size + 1) (o := 1) (by omega) _).trans (hb2.mono hg1.size)
    clear C0 C1 C2 hb2 hg1 c0
    have Hx' := hide hy'
    clear hy'
    have d1 := D1.cell
    have d2 := D2.cell
    have f2 := D2.frozen
    have Hg := hide hg2
    clear hg2
    go_wp2
    refine bodyPost_ret (v := .tuple #[.agg #[.int .i64 x, .int .i64 y'], .int .i64 r]) (by simp [results, Try.results38, d2, go_sem]) rfl ⟨?_, ?_⟩
    · have e := S.out.2.2.2.2.2 h0
      rw [e, Hx.out.2.2, Hx'.out, Hx.out.1, Hx.out.2.1]
    · exact below_set (below_set Hg.out (by omega) _) (by omega) _

/-- a slice of one class, just built -/
theorem ClsSl.one (w : World) (c : Cls) (T : TypeId) (hnm : c.nm.size ≤ maxLen) :
    ClsSl (w.alloc (.cells #[.string c.nm, .int .i64 c.se, .int .i64 c.we, .int .i64 c.ro, .int .i64 c.dr] T)) (some ⟨w.heap.size, 0, none⟩) [c] := by
  refine ⟨⟨by unfold maxLen; simp, fun i hi => ?_⟩, fun _ => ⟨w.heap.size, 0, rfl, by simp, fun i hi => ?_⟩⟩
  · have : i = 0 := by simpa using hi
    subst this; exact hnm
  · have : i = 0 := by simpa using hi
    subst this
    have B := Blk.new w T #[.string c.nm, .int .i64 c.se, .int .i64 c.we, .int .i64 c.ro, .int .i64 c.dr]
    exact ⟨B.cell 0, B.cell 1, B.cell 2, B.cell 3, B.cell 4⟩
set_option maxHeartbeats 1000000 in
theorem valid_any (c : Cls) (w : World) (hnm : c.nm.size ≤ maxLen) :
    Calls Try.prog 40 #[c.val] w fun e w' => e = .returned (.bool (rightB c)) ∧ Below w.heap.size w w' := by
  go_enter Try.func40, Try.ntmps40
  go_wp2_with fail
  have hs := ClsSl.one (w.alloc (.cells #[.string c.nm, .int .i64 c.se, .int .i64 c.we, .int .i64 c.ro, .int .i64 c.dr] 23)) c 23 hnm
  simp only [World.size_alloc] at hs
  have h45 := luvalid_any [c] _ 1 _ hs
  simp only [List.length_singleton] at h45
  refine h45.mono ?_
  rintro e w1 ⟨rfl, hb⟩
  go_wp2
  go_ret
  refine ⟨ret_bool (validB_one c), Below.trans ?_ (hb.mono (by go_size))⟩
  go_grown
/-- the class and its store are valid -/
def validSt (c : Cls) (s : Sto) : Bool := rightB c && inB s.wt c.we && inB s.he c.ro
theorem validSt_iff {c : Cls} {s : Sto} (h : validSt c s = true) : RightP c ∧ HoldsP c s := by
  simp only [validSt, Bool.and_eq_true, inB_iff] at h
  have h1 := of_rightB h.1.1
  exact ⟨h1.2, h.1.2.1, h.1.2.2, h.2.1, h.2.2⟩
set_option maxHeartbeats 1000000 in
theorem validStore_any (c : Cls) (s : Sto) (w : World) (hnm : c.nm.size ≤ maxLen) :
    Calls Try.prog 16 #[c.val, s.val] w fun e w' => e = .returned (.bool (validSt c s)) ∧ Below w.heap.size w w' := by
  have ht : (rightB c = false) ∨ (rightB c = true ∧ inB s.wt c.we = false) ∨ (rightB c = true ∧ inB s.wt c.we = true) := by
    cases rightB c <;> cases inB s.wt c.we <;> simp
  have B0 := (Blk.new w 23 #[.string c.nm, .int .i64 c.se, .int .i64 c.we, .int .i64 c.ro, .int .i64 c.dr]).alloc (.cells #[.int .i64 s.wt, .int .i64 s.he] 25)
  have B1 := Blk.new (w.alloc (.cells #[.string c.nm, .int .i64 c.se, .int .i64 c.we, .int .i64 c.ro, .int .i64 c.dr] 23)) 25 #[.int .i64 s.wt, .int .i64 s.he]
  simp only [World.size_alloc] at B0 B1
  rcases ht with t1 | ⟨t1, t2⟩ | ⟨t1, t2⟩
  all_goals
    have hv := hide (rfl : validSt c s = validSt c s)
    go_enter Try.func16, Try.ntmps16
    go_wp2_with fail
    refine (valid_any c _ hnm).mono ?_
    rintro e w1 ⟨rfl, hb⟩
    have hc := (B0.below hb (by go_size)).cell
    have hd := (B1.below hb (by go_size)).cell
    have Hg : Hid (Below w.heap.size w w1) := hide (by refine Below.trans ?_ (hb.mono (by go_size)); go_grown)
    clear hb
    go_wp2_with (go_at_call 36; refine (within_any _ _ _).mono ?_; rintro e w' ⟨rfl, rfl⟩)
    go_ret
    refine ⟨ret_bool ?_, Hg.out⟩
    simp [validSt, *]
end Go.Proofs.Ytljaibbmceknfaa
