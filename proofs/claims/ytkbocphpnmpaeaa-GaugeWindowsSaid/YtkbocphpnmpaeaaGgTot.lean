/- The program's Total and Mass of records: what each returns; nothing that was there is turned. -/
import Derived.Test.YtkbocphpnmpaeaaGgP2
import Derived.Test.YtkbocphpnmpaeaaGgFn
namespace Go.Proofs.Ytkbocphpnmpaeaa
open Go.RowKit

theorem int_info17 : (Try.prog.info? 3).map (fun i => (i.zero, i.size, i.bytes)) = some (some (.int .i64 0), 1, 8) := by kernel_rfl
theorem row_form {w : World} {base : Nat} {e : TypeId} {size n : Nat} {v : Value} {xs : List Value} (h : w.ownsRow base e size v n xs) (hn : 0 < n) : ∃ g cap, v = .slice (some ⟨g, 0, none⟩) n cap := by
  rcases h.2 with ⟨_, h0⟩ | ⟨g, cap, _, rfl, _⟩
  · omega
  · exact ⟨g, cap, rfl⟩
set_option maxHeartbeats 1000000 in
theorem total_bad (s : Ser) (a : SerA) (w : World) (hs : SerSl w s a) (hv : vS s = false) : Calls Try.prog 13 #[s.val a] w (GrPost 0 0 1 w) := by
  have V := hide (fun W (h : SerSl W s a) => gvalid_any s a W h)
  rw [hv] at V
  have HS := hide hs
  have X := (Own.start w).alloc (s.cells a) 24
  clear hs hv
  have hr := X.r1
  go_enter Try.func13, Try.ntmps13
  go_wp2_with fail
  refine (V.out _ (HS.out.below X.1)).mono ?_
  rintro e w1 ⟨rfl, hb⟩
  replace X := X.to hb
  clear hb hr
  go_wp2
  go_ret3
  exact GrPost.mk rfl rfl rfl X.1
set_option maxRecDepth 100000 in
set_option maxHeartbeats 4000000 in
theorem total_in (s : Ser) (a : SerA) (w : World) (hs : SerSl w s a) (hv : vS s = true) : Calls Try.prog 13 #[s.val a] w (GrPost (ps s.ds s.ds.length) (ms s.ds s.ds.length) 0 w) := by
  obtain ⟨fr, st, l⟩ := s
  obtain ⟨A, c⟩ := a
  have V := hide (fun W (h : SerSl W ⟨fr, st, l⟩ ⟨A, c⟩) => gvalid_any ⟨fr, st, l⟩ ⟨A, c⟩ W h)
  rw [hv] at V
  have v := vS_iff.1 hv
  have le : l.length ≤ 10000 := v.le
  have HV := hide v.ok
  have PB := hide (fun i hi => ps_le (fun i hi => (v.ok i hi).2) i hi)
  clear hv v
  have HS := hide hs
  have X := (Own.start w).alloc #[.int .i64 fr, .int .i64 st, .slice A l.length c] 24
  clear hs
  have hr := X.r1
  show Calls Try.prog 13 #[.agg #[.int .i64 fr, .int .i64 st, .slice A l.length c]] w (GrPost (ps l l.length) (ms l l.length) 0 w)
  go_enter Try.func13, Try.ntmps13
  go_wp2_with fail
  refine (V.out _ (HS.out.below X.1)).mono ?_
  rintro e w1 ⟨rfl, hb⟩
  replace X := X.to hb
  have HI := hide (HS.out.below X.1).1
  clear hb hr HS V
  have hr := X.r1
  go_wp2
  go_loop [5, 6, 8, 15] (fun v5 v6 v8 v15 => ∃ i : Nat, i ≤ l.length ∧ v15 = .int .i64 (i : Int) ∧ v5 = .int .i64 (ps l i) ∧ v6 = .int .i64 (ms l i)) (fun _ _ _ v15 => l.length - (intOf v15).toNat)
  case atStart => exact ⟨0, by omega, rfl, rfl, rfl⟩
  case round =>
    obtain ⟨i, hi, rfl, rfl, rfl⟩ := hrel
    by_cases hlt : i < l.length
    · obtain ⟨b, off, rfl, hbl, hat⟩ := HI.out.atg (show 0 < l.length by omega)
      have c0 := hat i hlt
      have D1 := hide (fun W => gdepth_any (l.getD i 0) W)
      obtain ⟨x, hx⟩ : ∃ x, x = max (l.getD i 0) 0 := ⟨_, rfl⟩
      have E1 : Hid (ps l (i + 1) = ps l i + x) := hide (by rw [hx]; rfl)
      have M1 : Hid (ms l (i + 1) = ms l i + if l.getD i 0 = -1 then 1 else 0) := hide rfl
      have mb := ms_bd l i
      have p0 := PB.out i (by show i ≤ l.length; omega)
      have p1 := ps_nonneg l i
      have v0 := HV.out i hlt
      have v0' : l.getD i 0 ≤ 4194304 := v0.2
      have x0 : 0 ≤ x ∧ x ≤ 4194304 := by rw [hx]; omega
      rw [← hx] at D1
      have s1 := IntWalk.i64_in (ps l i + x) (by omega)
      have s2 := IntWalk.i64_in (ms l i + 1) (by omega)
      clear hat hx p0 p1 x0 v0 v0' mb
      generalize l.getD i 0 = d at *
      generalize ps l i = P at *
      generalize ms l i = M at *
      by_cases q : d = -1
      · have q1 : (d == -1) = true := by simpa using q
        have E2 : Hid (ms l (i + 1) = M + 1) := hide (by rw [M1.out, if_pos q])
        clear q M1
        go_wp2_with fail
        refine (D1.out _).mono ?_
        rintro e w2 ⟨rfl, rfl⟩
        go_wp2
        go_round
        case rel => exact ⟨i + 1, by omega, by go_num, by rw [E1.out], by rw [E2.out]⟩
        case measure => simp [intOf]; omega
      · have q1 : (d == -1) = false := by simpa using q
        have E2 : Hid (ms l (i + 1) = M) := hide (by rw [M1.out, if_neg q, Int.add_zero])
        clear q M1
        go_wp2_with fail
        refine (D1.out _).mono ?_
        rintro e w2 ⟨rfl, rfl⟩
        go_wp2
        go_round
        case rel => exact ⟨i + 1, by omega, by go_num, by rw [E1.out], by rw [E2.out]⟩
        case measure => simp [intOf]; omega
    · have e : i = l.length := by omega
      subst e
      go_wp2
      go_ret3
      exact GrPost.mk rfl rfl rfl X.1
/-- a list of integers of the call's own, or an error -/
def RowPost (l : List Int) (er : Int) (w : World) (e : Ending) (w' : World) : Prop :=
  Below w.heap.size w w' ∧ ∃ (A : Option Addr) (cap : Nat), e = .returned (.tuple #[.slice A l.length cap, .int .i64 er]) ∧ IntSl w' A l ∧ l.length ≤ cap
theorem RowPost.err {er : Int} {w w' : World} (hb : Below w.heap.size w w') : RowPost [] er w (.returned (.tuple #[.slice none 0 0, .int .i64 er])) w' := ⟨hb, none, 0, rfl, IntSl.nil _ _, Nat.le_refl _⟩
set_option maxHeartbeats 1000000 in
theorem mass_bad (s : Ser) (a : SerA) (w : World) (hs : SerSl w s a) (hv : vS s = false) : Calls Try.prog 17 #[s.val a] w (RowPost [] 1 w) := by
  have V := hide (fun W (h : SerSl W s a) => gvalid_any s a W h)
  rw [hv] at V
  have HS := hide hs
  have X := (Own.start w).alloc (s.cells a) 24
  clear hs hv
  have hr := X.r1
  go_enter Try.func17, Try.ntmps17
  go_wp2_with fail
  refine (V.out _ (HS.out.below X.1)).mono ?_
  rintro e w1 ⟨rfl, hb⟩
  replace X := X.to hb
  clear hb hr
  go_wp2
  exact bodyPost_ret (v := .tuple #[.slice none 0 0, .int .i64 1]) (by simp [results, Try.results17, go_sem]) rfl (RowPost.err X.1)
/-- the row of sums, as far as it is written -/
def massF (l : List Int) (k : Nat) (j : Nat) : Value := if j < k then .int .i64 (ps l (j + 1)) else .int .i64 0
theorem massF_set (l : List Int) (k n : Nat) : (mkRow n (massF l k)).setIfInBounds k (.int .i64 (ps l (k + 1))) = mkRow n (massF l (k + 1)) := by
  rw [mkRow_set]
  refine mkRow_congr fun i _ => ?_
  unfold massF
  by_cases e : i = k
  · subst e; simp
  · rw [if_neg e]
    by_cases h : i < k
    · rw [if_pos h, if_pos (by omega)]
    · rw [if_neg h, if_neg (by omega)]
set_option maxRecDepth 100000 in
set_option maxHeartbeats 4000000 in
theorem mass_in (s : Ser) (a : SerA) (w : World) (hs : SerSl w s a) (hv : vS s = true) : Calls Try.prog 17 #[s.val a] w (RowPost (massL s.ds) 0 w) := by
  obtain ⟨fr, st, l⟩ := s
  obtain ⟨A, c⟩ := a
  have V := hide (fun W (h : SerSl W ⟨fr, st, l⟩ ⟨A, c⟩) => gvalid_any ⟨fr, st, l⟩ ⟨A, c⟩ W h)
  rw [hv] at V
  have v := vS_iff.1 hv
  have le : l.length ≤ 10000 := v.le
  have HV := hide v.ok
  have PB := hide (fun i hi => ps_le (fun i hi => (v.ok i hi).2) i hi)
  clear hv v
  have HS := hide hs
  have X := (Own.start w).alloc #[.int .i64 fr, .int .i64 st, .slice A l.length c] 24
  clear hs
  have hr := X.r1
  obtain ⟨i0, hi0, hz0, hz1, hz2⟩ := info_parts int_info17
  have MK : ∀ W : World, (Instr.makeSlice 22 (.int .i64 (l.length : Int)) (.int .i64 (l.length : Int))).run Try.prog W = .ok (.slice (some ⟨W.heap.size, 0, none⟩) l.length l.length) (W.alloc (.cells (mkRow l.length (massF l 0)) 3)) := fun W => by
    have := run_make_rowN (P := Try.prog) 22 3 i0 (.int .i64 0) Try.underlying22 hi0 hz0 .i64 .i64 l.length l.length (by omega) (by rw [hz2]; omega) (by omega) W
    rw [hz1] at this
    rw [Nat.mul_one] at this
    rw [show mkRow l.length (massF l 0) = madeCells (Value.int .i64 0).cells l.length from (mkRow_made l.length (.int .i64 0)).symm]
    exact this
  show Calls Try.prog 17 #[.agg #[.int .i64 fr, .int .i64 st, .slice A l.length c]] w (RowPost (massL l) 0 w)
  go_enter Try.func17, Try.ntmps17
  go_wp2_with fail
  refine (V.out _ (HS.out.below X.1)).mono ?_
  rintro e w1 ⟨rfl, hb⟩
  replace X := X.to hb
  have HI := hide HS.out.1
  clear hb hr HS V
  have hr := X.r1
  go_wp2
  have lt1 : w.heap.size < w1.heap.size := X.r1.2.2
  replace X := X.alloc (mkRow l.length (massF l 0)) 3
  clear hr MK
  have XH := hide X
  clear X
  go_loopw [5, 6, 7, 18] (fun v5 v6 v7 v18 wr => ∃ i : Nat, i ≤ l.length ∧ v18 = .int .i64 (i : Int) ∧ v5 = .int .i64 (ps l i) ∧ Hid (Own w wr [(w1.heap.size, 3, mkRow l.length (massF l i)), (w.heap.size, 24, #[.int .i64 fr, .int .i64 st, .slice A l.length c])])) (fun _ _ _ v18 _ => l.length - (intOf v18).toNat)
  case atStart => exact ⟨0, by omega, rfl, rfl, XH⟩
  case round =>
    obtain ⟨i, hi, rfl, rfl, Y⟩ := hrel
    by_cases hlt : i < l.length
    · obtain ⟨b, off, rfl, hbl, hat⟩ := (HI.out.below Y.out.1).atg (show 0 < l.length by omega)
      have c0 := hat i hlt
      have cz := (Y.out.r1.1 i).trans (mkRow_at l.length (massF l i) hlt)
      rw [show massF l i i = .int .i64 0 by simp [massF]] at cz
      have fz := Y.out.r1.2.1 i
      have g0 : (0 : Int) ≤ (i : Int) := by omega
      have g1 : (i : Int) < (l.length : Int) := by omega
      have D1 := hide (fun W => gdepth_any (l.getD i 0) W)
      obtain ⟨x, hx⟩ : ∃ x, x = max (l.getD i 0) 0 := ⟨_, rfl⟩
      have E1 : Hid (ps l (i + 1) = ps l i + x) := hide (by rw [hx]; rfl)
      have p0 := PB.out i (by show i ≤ l.length; omega)
      have p1 := ps_nonneg l i
      have v0 := HV.out i hlt
      have v0' : l.getD i 0 ≤ 4194304 := v0.2
      have x0 : 0 ≤ x ∧ x ≤ 4194304 := by rw [hx]; omega
      rw [← hx] at D1
      have s1 := IntWalk.i64_in (ps l i + x) (by omega)
      have ST := hide (fun (v : Int) (hv : v = ps l (i + 1)) => (by
        have := Y.out.set0 (by omega) (by intro y hy; simp at hy; subst hy; show w.heap.size ≠ _; omega) i (.int .i64 v)
        rw [hv, massF_set] at this
        rw [hv]
        exact this : Own w (wr.setCell ⟨w1.heap.size, i, none⟩ (.int .i64 v)) [(w1.heap.size, 3, mkRow l.length (massF l (i + 1))), (w.heap.size, 24, #[.int .i64 fr, .int .i64 st, .slice (some ⟨b, off, none⟩) l.length c])]))
      clear hat hx p0 p1 x0 v0 v0'
      generalize l.getD i 0 = d at *
      generalize ps l i = P at *
      go_wp2_with fail
      refine (D1.out _).mono ?_
      rintro e w2 ⟨rfl, rfl⟩
      go_wp2
      go_roundw
      case rel => exact ⟨i + 1, by omega, by go_num, by rw [E1.out], hide (ST.out _ E1.out.symm)⟩
      case measure => simp [intOf]; omega
    · have e : i = l.length := by omega
      subst e
      have B := (Y.out.2 _ (List.mem_cons_self ..))
      have LB : IntSl wr (some ⟨w1.heap.size, 0, none⟩) (massL l) := by
        refine IntSl.of_blk (t := 3) (f := fun i => ps l (i + 1)) ?_ (by omega) (fun i hi => ?_)
        · rw [mkRow_congr (g := massF l l.length) (fun i hi => by simp [massF, hi])]
          exact B
        · have p0 := PB.out (i + 1) (by show i + 1 ≤ l.length; omega)
          have p1 := ps_nonneg l (i + 1)
          omega
      have LH := hide LB
      clear LB B
      go_wp2
      exact bodyPost_ret (v := .tuple #[.slice (some ⟨w1.heap.size, 0, none⟩) l.length l.length, .int .i64 0]) (by simp [results, Try.results17, go_sem]) rfl ⟨Y.out.1, _, _, by rw [massL_length], LH.out, by rw [massL_length]; exact Nat.le_refl _⟩
end Go.Proofs.Ytkbocphpnmpaeaa
