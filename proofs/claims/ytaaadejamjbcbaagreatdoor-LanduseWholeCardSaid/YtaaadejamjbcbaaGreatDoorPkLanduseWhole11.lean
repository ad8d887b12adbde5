/- The program's Areas: the areas of inlets by classes, or the error; nothing that was there is turned (printed by gen_ara.py). -/
import Derived.Test.YtaaadejamjbcbaaGreatDoorPkLanduseWhole10
import Derived.Test.YtaaadejamjbcbaaGreatDoorPkLanduseWhole8
namespace Go.Proofs.YtaaadejamjbcbaaGreatDoor
open Go Go.RowKit

theorem slI_info : (Tryz.prog.info? 35).map (fun i => (i.zero, i.size, i.bytes)) = some (some (.slice none 0 0), 1, 24) := by kernel_rfl
theorem intA_info : (Tryz.prog.info? 3).map (fun i => (i.zero, i.size, i.bytes)) = some (some (.int .i64 0), 1, 8) := by kernel_rfl
theorem make_row (c : Nat) (hc : c ≤ 16) (W : World) : (Instr.makeSlice 35 (.int .i64 (c : Int)) (.int .i64 (c : Int))).run Tryz.prog W = .ok (.slice (some ⟨W.heap.size, 0, none⟩) c c) (W.alloc (.cells (mkRow c fun _ => .int .i64 0) 3)) := by
  obtain ⟨i1, hi1, hy0, hy1, hy2⟩ := info_parts intA_info
  have := run_make_rowN (P := Tryz.prog) 35 3 i1 (.int .i64 0) Tryz.underlying35 hi1 hy0 .i64 .i64 c c (by omega) (by rw [hy2]; omega) (by omega) W
  rw [hy1, Nat.mul_one] at this
  rw [show mkRow c (fun _ => Value.int .i64 0) = madeCells (Value.int .i64 0).cells c from (mkRow_made c (.int .i64 0)).symm]
  exact this
def ArErr (er : Int) (w : World) (e : Ending) (w' : World) : Prop := e = .returned (.tuple #[.slice none 0 0, .int .i64 er]) ∧ Below w.heap.size w w'
set_option maxRecDepth 100000 in
set_option maxHeartbeats 2000000 in
theorem areas_bad (m : Msh) (a : MshA) (inl : List Int) (A : Option Addr) (cp : Nat) (n : Int) (w : World) (hm : MshSl w m a) (ht : Lib.TabIs Tryz.prog w "internal/strconv.uint64pow10" .u64 Lib.pow10Tab) (hv : vM m = false) :
    Calls Tryz.prog 12 #[m.val a, .slice A inl.length cp, .int .i64 n] w (ArErr 1 w) := by
  obtain ⟨ss, fs⟩ := m
  obtain ⟨A1, c1, A2, c2⟩ := a
  have X := ((Own.start w).alloc #[.slice A1 ss.length c1, .slice A2 fs.length c2] 25).alloc #[.int .i64 n] 3
  simp only [World.size_alloc] at X
  have VA := hide (fun W h h' => msvalid_any ⟨ss, fs⟩ ⟨A1, c1, A2, c2⟩ W h h')
  rw [hv] at VA
  unfold RetW at VA
  have HM := hide hm
  have HT := hide ht
  have hr := X.r2
  clear hm ht hv
  go_enter Tryz.func12, Tryz.ntmps12
  go_wp2_with fail
  refine (VA.out _ (HM.out.below X.1) (tab_below HT.out X.1)).mono ?_
  rintro e w1 ⟨rfl, hb⟩
  replace X := X.to hb
  clear hb hr VA
  have hr := X.r2
  go_wp2
  go_ret2
  exact ⟨rfl, X.1⟩
set_option maxRecDepth 100000 in
set_option maxHeartbeats 4000000 in
theorem areas_err (ss : List Spt) (fs : List Fce) (A1 A2 : Option Addr) (c1 c2 : Nat) (inl : List Int) (A : Option Addr) (cp : Nat) (n : Int) (w : World) (hm : MshSl w ⟨ss, fs⟩ ⟨A1, c1, A2, c2⟩) (hi : IntSl w A inl) (ht : Lib.TabIs Tryz.prog w "internal/strconv.uint64pow10" .u64 Lib.pow10Tab) (hv : vM ⟨ss, fs⟩ = true) (he : arE fs inl n ≠ 0) :
    Calls Tryz.prog 12 #[.agg #[.slice A1 ss.length c1, .slice A2 fs.length c2], .slice A inl.length cp, .int .i64 n] w (ArErr (arE fs inl n) w) := by
  have X := ((Own.start w).alloc #[.slice A1 ss.length c1, .slice A2 fs.length c2] 25).alloc #[.int .i64 n] 3
  simp only [World.size_alloc] at X
  have VA := hide (fun W h h' => msvalid_any ⟨ss, fs⟩ ⟨A1, c1, A2, c2⟩ W h h')
  rw [hv] at VA
  unfold RetW at VA
  have HM := hide hm
  have HT := hide ht
  have HI := hide hi
  have CI := hide (fun W h => contI_any 30 bdI (fun d w => lubd_any d w) (fun d w => by rfl) inl A cp W h)
  have CF := hide (fun W h hB hb => contF_any n fs A2 c2 (w.heap.size + 1) W h hB hb)
  unfold RetW at CF
  have hl1 : inl.length ≤ 9223372036854775807 := hi.1.1
  have hr := X.r2
  clear hm hi ht hv
  by_cases h3 : inl.length = fs.length
  case neg =>
    have q1 : ((inl.length : Int) != (fs.length : Int)) = true := by simp; omega
    have q2 : ((inl.length : Int) == (fs.length : Int)) = false := by simp; omega
    rw [show arE fs inl n = 3 by simp [arE, h3]]
    clear h3 he CI CF
    go_enter Tryz.func12, Tryz.ntmps12
    go_wp2_with fail
    refine (VA.out _ (HM.out.below X.1) (tab_below HT.out X.1)).mono ?_
    rintro e w1 ⟨rfl, hb⟩
    replace X := X.to hb
    clear hb hr VA
    have hr := X.r2
    go_wp2
    go_ret2
    exact ⟨rfl, X.1⟩
  have q1 : ((inl.length : Int) != (fs.length : Int)) = false := by simp; omega
  have q2 : ((inl.length : Int) == (fs.length : Int)) = true := by simp; omega
  have H3 := hide h3
  clear h3
  by_cases h1 : n < 1
  · have d1 : decide (n < 1) = true := decide_eq_true h1
    rw [show arE fs inl n = 2 by simp [arE, H3.out, h1]]
    clear h1 he CI CF
    go_enter Tryz.func12, Tryz.ntmps12
    go_wp2_with fail
    refine (VA.out _ (HM.out.below X.1) (tab_below HT.out X.1)).mono ?_
    rintro e w1 ⟨rfl, hb⟩
    replace X := X.to hb
    clear hb hr VA
    have hr := X.r2
    go_wp2
    go_ret2
    exact ⟨rfl, X.1⟩
  have d1 : decide (n < 1) = false := decide_eq_false h1
  by_cases h2 : 16 < n
  · have d2 : decide (16 < n) = true := decide_eq_true h2
    rw [show arE fs inl n = 2 by simp [arE, H3.out, h2]]
    clear h1 h2 he CI CF
    go_enter Tryz.func12, Tryz.ntmps12
    go_wp2_with fail
    refine (VA.out _ (HM.out.below X.1) (tab_below HT.out X.1)).mono ?_
    rintro e w1 ⟨rfl, hb⟩
    replace X := X.to hb
    clear hb hr VA
    have hr := X.r2
    go_wp2
    go_ret2
    exact ⟨rfl, X.1⟩
  have d2 : decide (16 < n) = false := decide_eq_false h2
  cases hb : inl.any bdI with
  | true =>
    rw [hb] at CI
    rw [show arE fs inl n = 2 by simp only [arE]; rw [if_neg (by simp [H3.out]), if_pos (.inr (.inr hb))]]
    clear h1 h2 he hb CF
    go_enter Tryz.func12, Tryz.ntmps12
    go_wp2_with fail
    refine (VA.out _ (HM.out.below X.1) (tab_below HT.out X.1)).mono ?_
    rintro e w1 ⟨rfl, hb⟩
    replace X := X.to hb
    clear hb hr VA
    have hr := X.r2
    go_wp2_with fail
    refine (CI.out _ (HI.out.below X.1)).mono ?_
    rintro e w2 ⟨rfl, rfl⟩
    go_wp2
    go_ret2
    exact ⟨rfl, X.1⟩
  | false =>
    rw [hb] at CI
    have e11 : fs.any (fun f => decide (n ≤ f.k)) = true := by
      cases e : fs.any (fun f => decide (n ≤ f.k)) with
      | true => rfl
      | false =>
        exfalso
        apply he
        simp only [arE]
        rw [if_neg (by simp [H3.out]), if_neg (by rw [hb]; simp; omega), e, if_neg (by decide)]
    rw [e11] at CF
    rw [show arE fs inl n = 11 by simp only [arE]; rw [if_neg (by simp [H3.out]), if_neg (by rw [hb]; simp; omega), if_pos e11]]
    clear h1 h2 he hb e11
    go_enter Tryz.func12, Tryz.ntmps12
    go_wp2_with fail
    refine (VA.out _ (HM.out.below X.1) (tab_below HT.out X.1)).mono ?_
    rintro e w1 ⟨rfl, hb⟩
    replace X := X.to hb
    clear hb hr VA
    have hr := X.r2
    go_wp2_with fail
    refine (CI.out _ (HI.out.below X.1)).mono ?_
    rintro e w2 ⟨rfl, rfl⟩
    go_wp2_with fail
    refine (CF.out _ (HM.out.2.below X.1) (hr.1.1 0) hr.1.2.2).mono ?_
    rintro e w3 ⟨rfl, hb⟩
    replace X := X.to hb
    clear hb hr
    have hr := X.r2
    go_wp2
    go_ret2
    exact ⟨rfl, X.1⟩
theorem arE_ok {fs : List Fce} {inl : List Int} {n : Int} (h : arE fs inl n = 0) : inl.length = fs.length ∧ 1 ≤ n ∧ n ≤ 16 ∧ inl.any bdI = false ∧ fs.any (fun f => decide (n ≤ f.k)) = false := by
  unfold arE at h
  by_cases h3 : inl.length = fs.length
  · rw [if_neg (by simpa using h3)] at h
    by_cases h2 : n < 1 ∨ 16 < n ∨ inl.any bdI = true
    · rw [if_pos h2] at h; omega
    · rw [if_neg h2] at h
      by_cases h1 : fs.any (fun f => decide (n ≤ f.k)) = true
      · rw [if_pos h1] at h; omega
      · exact ⟨h3, by omega, by omega, by simpa using fun e => h2 (.inr (.inr e)), by simpa using h1⟩
  · rw [if_pos h3] at h; omega
theorem inl_bd {inl : List Int} (h : inl.any bdI = false) {k : Nat} (hk : k < inl.length) : -1 ≤ inl[k] ∧ inl[k] ≤ 299 := by
  have := List.any_eq_false.1 h inl[k] (List.getElem_mem hk)
  simp only [bdI, Bool.or_eq_true, decide_eq_true_eq] at this
  omega
theorem inl_bdD {inl : List Int} (h : inl.any bdI = false) (k : Nat) : inl.getD k (-1) ≤ 299 := by
  by_cases hk : k < inl.length
  · rw [show inl.getD k (-1) = inl[k] by simp [hk]]
    exact (inl_bd h hk).2
  · rw [show inl.getD k (-1) = -1 by simp [List.getD_eq_getElem?_getD, List.getElem?_eq_none (Nat.le_of_not_lt hk)]]
    omega
def ArPost (ss : List Spt) (fs : List Fce) (inl : List Int) (c : Nat) (w : World) (e : Ending) (w' : World) : Prop :=
  ∃ V gs, e = .returned (.tuple #[V, .int .i64 0]) ∧ Tr w' w.heap.size V gs c (arV ss fs inl inl.length) ∧ gs.length = rwN inl inl.length ∧ Below w.heap.size w w'
set_option maxRecDepth 100000 in
set_option maxHeartbeats 8000000 in
theorem areas_ok (ss : List Spt) (fs : List Fce) (A1 A2 : Option Addr) (c1 c2 : Nat) (inl : List Int) (A : Option Addr) (cp : Nat) (c : Nat) (w : World) (hm : MshSl w ⟨ss, fs⟩ ⟨A1, c1, A2, c2⟩) (hi : IntSl w A inl) (ht : Lib.TabIs Tryz.prog w "internal/strconv.uint64pow10" .u64 Lib.pow10Tab) (hv : vM ⟨ss, fs⟩ = true) (he : arE fs inl c = 0) :
    Calls Tryz.prog 12 #[.agg #[.slice A1 ss.length c1, .slice A2 fs.length c2], .slice A inl.length cp, .int .i64 (c : Int)] w (ArPost ss fs inl c w) := by
  obtain ⟨h3, h1, h2, hb, e11⟩ := arE_ok he
  have X := ((Own.start w).alloc #[.slice A1 ss.length c1, .slice A2 fs.length c2] 25).alloc #[.int .i64 (c : Int)] 3
  simp only [World.size_alloc] at X
  have VA := hide (fun W h h' => msvalid_any ⟨ss, fs⟩ ⟨A1, c1, A2, c2⟩ W h h')
  rw [hv] at VA
  unfold RetW at VA
  have HM := hide hm
  have HT := hide ht
  have HI := hide hi
  have CI := hide (fun W h => contI_any 30 bdI (fun d w => lubd_any d w) (fun d w => by rfl) inl A cp W h)
  have CF := hide (fun W h hB hb => contF_any (c : Int) fs A2 c2 (w.heap.size + 1) W h hB hb)
  unfold RetW at CF
  rw [hb] at CI
  rw [e11] at CF
  have hl1 : inl.length ≤ 9223372036854775807 := hi.1.1
  have sm := vM_small hv
  have q1 : ((inl.length : Int) != (fs.length : Int)) = false := by simp; omega
  have q2 : ((inl.length : Int) == (fs.length : Int)) = true := by simp; omega
  have d1 : decide ((c : Int) < 1) = false := decide_eq_false (by omega)
  have d2 : decide ((16 : Int) < (c : Int)) = false := decide_eq_false (by omega)
  have d2' : decide (16 < c) = false := decide_eq_false (by omega)
  have hc1 : 1 ≤ c := by omega
  have hc2 : c ≤ 16 := by omega
  have hr := X.r2
  have FA := hide (fun i (hi : i < fs.length) => vM_face hv i hi)
  have FK := hide (fun i (hi : i < fs.length) => (by
    have := List.any_eq_false.1 e11 fs[i] (List.getElem_mem hi)
    simp only [decide_eq_true_eq] at this
    omega : fs[i].k < (c : Int)))
  have TWB := hide (fun i (hi : i < fs.length) => (trn_bd2 (tri_in sm.1 (vM_face hv i hi).1).1 (tri_in sm.1 (vM_face hv i hi).1).2.1 (tri_in sm.1 (vM_face hv i hi).1).2.2 : -2251799813685248 ≤ twA ss (fcA fs i) ∧ twA ss (fcA fs i) ≤ 2251799813685248))
  have IB := hide hb
  have H3 := hide h3
  have SM := hide sm
  have MK := make_row c hc2
  obtain ⟨k0, hk0, hy0, hy1, hy2⟩ := info_parts slI_info
  clear hm hi ht hv he hb e11 h3 sm h1 h2
  go_enter Tryz.func12, Tryz.ntmps12
  go_wp2_with fail
  refine (VA.out _ (HM.out.below X.1) (tab_below HT.out X.1)).mono ?_
  rintro e w1 ⟨rfl, hb⟩
  replace X := X.to hb
  clear hb hr VA
  have hr := X.r2
  go_wp2_with fail
  refine (CI.out _ (HI.out.below X.1)).mono ?_
  rintro e w2 ⟨rfl, rfl⟩
  go_wp2_with fail
  refine (CF.out _ (HM.out.2.below X.1) (hr.1.1 0) hr.1.2.2).mono ?_
  rintro e w3 ⟨rfl, hb⟩
  replace X := X.to hb
  clear hb hr
  have hr := X.r2
  have TA : Hid (Ta w w3 (w.heap.size + 1 + 1) [(w.heap.size + 1, 3, #[.int .i64 (c : Int)]), (w.heap.size, 25, #[.slice A1 ss.length c1, .slice A2 fs.length c2])] (.slice none 0 0) [] c (arV ss fs inl 0)) := hide ⟨X, Tr.nil _ _ _ _, fun x hx => (by
    simp only [List.mem_cons, List.not_mem_nil, or_false] at hx
    rcases hx with rfl | rfl
    · exact ⟨by simp, show (35 : Nat) ≠ 3 by decide⟩
    · exact ⟨by simp; omega, show (35 : Nat) ≠ 25 by decide⟩), by omega, (show w.heap.size + 1 < w3.heap.size from hr.1.2.2)⟩
  clear X CI CF
  go_wp2
  clear hr
  go_loopw [8, 40] (fun v8 v40 wr => ∃ (k : Nat) (gs : List Nat), k ≤ inl.length ∧ v40 = .int .i64 k ∧ Hid (gs.length = rwN inl k) ∧ Hid (Ta w wr (w.heap.size + 1 + 1) [(w.heap.size + 1, 3, #[.int .i64 (c : Int)]), (w.heap.size, 25, #[.slice A1 ss.length c1, .slice A2 fs.length c2])] v8 gs c (arV ss fs inl k))) (fun _ v40 _ => inl.length - (intOf v40).toNat)
  case atStart => exact ⟨0, [], Nat.zero_le _, rfl, hide rfl, TA⟩
  case round =>
    obtain ⟨k, gs, hk, rfl, HN, HA⟩ := hrel
    clear TA
    by_cases hlt : k < inl.length
    · obtain ⟨bi, oi, rfl, hbi, hat⟩ := HI.out.2 (by omega)
      have ci := (HA.out.own.1.cell (p := ⟨bi, oi + k, none⟩) hbi).trans (hat k hlt)
      have ib := inl_bd IB.out hlt
      have eI : inl.getD k (-1) = inl[k] := by simp [hlt]
      have HD := hide eI
      have RN : Hid (rwN inl (k + 1) = max (rwN inl k) (inl[k] + 1).toNat) := hide (by rw [← eI]; rfl)
      have RL := hide (rwN_le (inl_bdD IB.out) (k + 1))
      clear eI hat
      generalize inl[k] = i at *
      have k0' : (0 : Int) ≤ (k : Int) := by omega
      have k1' : (k : Int) < (inl.length : Int) := by omega
      have kd : decide (k < inl.length) = true := decide_eq_true hlt
      have hr := HA.out.own.r2
      go_wp2
      clear hr ci
      have HA0 : Hid (∃ gs', rwN inl k ≤ gs'.length ∧ gs'.length ≤ rwN inl (k + 1) ∧ Ta w wr (w.heap.size + 1 + 1) [(w.heap.size + 1, 3, #[.int .i64 (c : Int)]), (w.heap.size, 25, #[.slice A1 ss.length c1, .slice A2 fs.length c2])] u8 gs' c (arV ss fs inl k)) := hide ⟨gs, by rw [HN.out]; exact Nat.le_refl _, by rw [HN.out, RN.out]; exact Nat.le_max_left _ _, HA.out⟩
      clear HA HN
      go_loopw [8] (fun v8 wr => Hid (∃ gs' : List Nat, rwN inl k ≤ gs'.length ∧ gs'.length ≤ rwN inl (k + 1) ∧ Ta w wr (w.heap.size + 1 + 1) [(w.heap.size + 1, 3, #[.int .i64 (c : Int)]), (w.heap.size, 25, #[.slice A1 ss.length c1, .slice A2 fs.length c2])] v8 gs' c (arV ss fs inl k))) (fun v8 _ => rwN inl (k + 1) - match v8 with | .slice _ n _ => n | _ => 0)
      case atStart => exact HA0
      case round =>
        obtain ⟨gs', hg1, hg2, hA⟩ := hrel.out
        have HA := hide hA
        clear hrel HA0 hA
        obtain ⟨A8, c8, e8, hcap, hcell⟩ := HA.out.tr.slice
        subst e8
        have HCL := hide hcell
        have rl := RL.out
        clear hcell
        by_cases hle : (gs'.length : Int) ≤ i
        · have dd : decide ((gs'.length : Int) ≤ i) = true := decide_eq_true hle
          have hlt2 : gs'.length + 1 ≤ rwN inl (k + 1) := by
            have := RN.out
            omega
          have hr := HA.out.own.r2
          have O1 : Below wr.heap.size wr (wr.alloc (.cells (mkRow c fun _ => .int .i64 0) 3)) := (Below.refl _ _).alloc (Nat.le_refl _) _
          have O2 : Below (wr.alloc (.cells (mkRow c fun _ => .int .i64 0) 3)).heap.size (wr.alloc (.cells (mkRow c fun _ => .int .i64 0) 3)) ((wr.alloc (.cells (mkRow c fun _ => .int .i64 0) 3)).alloc (.cells #[.slice (some ⟨wr.heap.size, 0, none⟩) c c] 35)) := (Below.refl _ _).alloc (Nat.le_refl _) _
          have AV := hide ((HA.out.tr.to O1).to O2).v
          have NB : Hid (((wr.alloc (.cells (mkRow c fun _ => .int .i64 0) 3)).alloc (.cells #[.slice (some ⟨wr.heap.size, 0, none⟩) c c] 35)).heap[wr.heap.size + 1]? = some (.cells #[.slice (some ⟨wr.heap.size, 0, none⟩) c c] 35)) := hide (by have := heap_alloc_new (wr.alloc (.cells (mkRow c fun _ => .int .i64 0) 3)) (.cells #[.slice (some ⟨wr.heap.size, 0, none⟩) c c] 35); simpa using this)
          have H0 := hide (fun x (_ : x < c) => arV_far (ss := ss) (fs := fs) (c := x) hg1)
          have f0' : (0 : Nat) < 1 := by decide
          have f1 : gs'.length + 1 ≤ maxLen := by unfold maxLen; omega
          have f2 : (gs'.length + 1) * 24 ≤ 140737488355328 := by omega
          have f4 : ∀ u ∈ [Value.slice (some ⟨wr.heap.size, 0, none⟩) c c], u.oneCell' = true := by intro u hu; rw [List.mem_singleton.1 hu]; rfl
          have f5 : w.heap.size + 1 + 1 ≤ ((wr.alloc (.cells (mkRow c fun _ => .int .i64 0) 3)).alloc (.cells #[.slice (some ⟨wr.heap.size, 0, none⟩) c c] 35)).heap.size := by have := HA.out.hB.2; simp; omega
          clear O1 O2 hle
          go_wp2_with (at_builtin; refine wpList_append_lies _ rfl _ _ 36 rfl (w.heap.size + 1 + 1) 35 k0 (.slice none 0 0) 1 24 Tryz.underlying36 hk0 hy0 hy1 hy2 rfl (by decide) (.slice A8 gs'.length c8) gs'.length (gs'.map fun g => Value.slice (some ⟨g, 0, none⟩) c c) rfl AV.out ⟨wr.heap.size + 1, 0, none⟩ 1 1 [.slice (some ⟨wr.heap.size, 0, none⟩) c c] rfl rfl (World.news_of_block (cs := #[.slice (some ⟨wr.heap.size, 0, none⟩) c c]) (t := 35) (fr := (0, 0)) NB.out) f4 f0' f1 f2 f5 (wr.heap.size + 2) (by simp) ?_; intro gg cq w4 hown4 hgrow hat4 hlt4)
          have SN := hide (HA.out.app H0.out hown4 hgrow)
          clear hown4 hgrow AV NB f1 f2 f4 f5 HCL
          go_roundw
          case rel => exact hide ⟨gs' ++ [wr.heap.size], by simp; omega, by simp; omega, SN.out⟩
          case measure => simp; omega
        · have dd : decide ((gs'.length : Int) ≤ i) = false := decide_eq_false hle
          have EN : Hid (gs'.length = rwN inl (k + 1)) := hide (by have := RN.out; omega)
          by_cases i0 : 0 ≤ i
          · obtain ⟨x, rfl⟩ : ∃ x : Nat, i = (x : Int) := ⟨i.toNat, by omega⟩
            have hx : x < gs'.length := by omega
            have hkf : k < fs.length := by have := H3.out; omega
            obtain ⟨b, off, e, hbl, hat⟩ := HM.out.2.2 (by show 0 < fs.length; omega)
            obtain rfl : A2 = some ⟨b, off, none⟩ := e
            obtain ⟨y0, y1, y2, y3⟩ := hat k hkf
            replace y0 := (HA.out.own.1.cell (p := ⟨b, _, none⟩) hbl).trans y0
            replace y1 := (HA.out.own.1.cell (p := ⟨b, _, none⟩) hbl).trans y1
            replace y2 := (HA.out.own.1.cell (p := ⟨b, _, none⟩) hbl).trans y2
            replace y3 := (HA.out.own.1.cell (p := ⟨b, _, none⟩) hbl).trans y3
            have nbw : b < wr.heap.size := Nat.lt_of_lt_of_le hbl HA.out.own.1.size
            have eF : Hid (fcA fs k = fs[k]) := hide (by simp [fcA, hkf])
            have fcr := (FA.out k hkf).1
            have fkk := FK.out k hkf
            have twb := TWB.out k hkf
            have BD := hide (arV_bd (inl := inl) TWB.out x (fs[k].k).toNat k (by omega))
            rw [eF.out] at fcr twb
            generalize fs[k] = t at *
            clear hat
            obtain ⟨ta, tb, tc, tk⟩ := t
            have tk0 : 0 ≤ tk := by
              simp only [crB, Bool.and_eq_true, decide_eq_true_eq] at fcr
              exact fcr.1.2
            obtain ⟨fa, fb, fc, rfl, rfl, rfl, ha, hb', hc⟩ := crB_natA fcr
            obtain ⟨kn, rfl⟩ : ∃ kn : Nat, tk = (kn : Int) := ⟨tk.toNat, by omega⟩
            have hkn : kn < c := by have : (kn : Int) < (c : Int) := fkk; omega
            have LT : Hid (∀ W : World, MshSl W ⟨ss, fs⟩ ⟨A1, c1, some ⟨b, off, none⟩, c2⟩ → Calls Tryz.prog 33 #[.agg #[.slice A1 ss.length c1, .slice (some ⟨b, off, none⟩) fs.length c2], .agg #[.int .i64 fa, .int .i64 fb, .int .i64 fc, .int .i64 kn]] W fun e w' => e = .returned (.int .i64 (twA ss ⟨fa, fb, fc, kn⟩)) ∧ Below W.heap.size W w') := hide (fun W h => lutw_any ⟨ss, fs⟩ ⟨A1, c1, some ⟨b, off, none⟩, c2⟩ fa fb fc kn W h ha hb' hc (tri_in SM.out.1 fcr))
            obtain ⟨g8, e8, hg8, hc8⟩ := HCL.out (by omega)
            obtain rfl : A8 = some ⟨g8, 0, none⟩ := e8
            have r0 := hc8 x hx
            have v0 := HA.out.tr.val hx hkn
            have BK := HA.out.tr.r x hx
            have glt := BK.lt
            have ARS : Hid (∀ j y, arV ss fs inl (k + 1) j y = arV ss fs inl k j y + if (x : Int) = (j : Int) ∧ (kn : Int) = (y : Int) then twA ss ⟨fa, fb, fc, kn⟩ else 0) := hide (fun j y => by
              show arV ss fs inl k j y + _ = _
              rw [HD.out, eF.out])
            have SET := hide (fun W' (h : Below wr.heap.size wr W') u => (HA.out.to h).set hx hkn u)
            replace BD : Hid (-(2251799813685248 * (k : Int)) ≤ arV ss fs inl k x kn ∧ arV ss fs inl k x kn ≤ 2251799813685248 * (k : Int)) := BD
            replace twb : -2251799813685248 ≤ twA ss ⟨fa, fb, fc, kn⟩ ∧ twA ss ⟨fa, fb, fc, kn⟩ ≤ 2251799813685248 := twb
            have k4 : k < 4000 := by have := SM.out.2; omega
            have sb : -9223372036854775808 ≤ arV ss fs inl k x kn + twA ss ⟨fa, fb, fc, kn⟩ ∧ arV ss fs inl k x kn + twA ss ⟨fa, fb, fc, kn⟩ ≤ 9223372036854775807 := by
              obtain ⟨p1, p2⟩ := BD.out
              obtain ⟨p3, p4⟩ := twb
              exact ⟨by omega, by omega⟩
            have sw : IntKind.i64.wrap (arV ss fs inl k x kn + twA ss ⟨fa, fb, fc, kn⟩) = arV ss fs inl k x kn + twA ss ⟨fa, fb, fc, kn⟩ := IntWalk.i64_in _ sb
            have FIN : Hid (∀ W', Below wr.heap.size wr W' → ∀ s, s = arV ss fs inl k x kn + twA ss ⟨fa, fb, fc, kn⟩ → Ta w (W'.setCell ⟨gs'[x], kn, none⟩ (.int .i64 s)) (w.heap.size + 1 + 1) [(w.heap.size + 1, 3, #[.int .i64 (c : Int)]), (w.heap.size, 25, #[.slice A1 ss.length c1, .slice (some ⟨b, off, none⟩) fs.length c2])] (.slice (some ⟨g8, 0, none⟩) gs'.length c8) gs' c (arV ss fs inl (k + 1))) := hide (fun W' h s hs => (SET.out W' h s).congr (fun j y _ _ => by
              rw [ARS.out j y]
              by_cases e : j = x ∧ y = kn
              · obtain ⟨rfl, rfl⟩ := e
                rw [if_pos ⟨rfl, rfl⟩, if_pos ⟨rfl, rfl⟩, hs]
              · rw [if_neg e, if_neg (by omega), Int.add_zero]))
            have sw2 : wrap64 (arV ss fs inl k x kn + twA ss ⟨fa, fb, fc, kn⟩) = arV ss fs inl k x kn + twA ss ⟨fa, fb, fc, kn⟩ := IntWalk.wrap64_in _ sb
            obtain ⟨s, hs⟩ : ∃ s, s = arV ss fs inl k x kn + twA ss ⟨fa, fb, fc, kn⟩ := ⟨_, rfl⟩
            replace FIN := hide (fun W' h => FIN.out W' h s hs)
            have SW2 : Hid (wrap64 (arV ss fs inl k x kn + twA ss ⟨fa, fb, fc, kn⟩) = s) := hide (sw2.trans hs.symm)
            clear sw sw2
            clear ARS SET sb BD twb hs RL rl RN dd
            have sx0 : (0 : Int) ≤ (x : Int) := by omega
            have sx1 : (x : Int) < (gs'.length : Int) := by omega
            have kn0 : (0 : Int) ≤ (kn : Int) := by omega
            have kn1 : (kn : Int) < (c : Int) := by omega
            have kf1 : (k : Int) < (fs.length : Int) := by omega
            have di : decide ((0 : Int) ≤ (x : Int)) = true := decide_eq_true sx0
            generalize arV ss fs inl k x kn = old at *
            generalize twA ss ⟨fa, fb, fc, kn⟩ = tw at *
            have BKW := hide (fun W' (h : Below wr.heap.size wr W') => And.intro ((h.cell (p := ⟨gs'[x], kn, none⟩) glt).trans v0) (And.intro ((BK.below h glt).frozen kn) (BK.below h glt).lt))
            clear BK
            have hg0 : gs'[x] < wr.heap.size := glt
            generalize gs'[x] = gx at *
            have hr := HA.out.own.r2
            have NE : Nonempty (OwnW wr []) := ⟨⟨_, Own.start wr⟩⟩
            have C1 := fun y : OwnW wr [] => (HA.out.to y.own.1).own.r2
            have D0 := fun y : OwnW wr [] => (y.own.1.cell (p := ⟨b, off + k * 4, none⟩) nbw).trans y0
            have D1 := fun y : OwnW wr [] => (y.own.1.cell (p := ⟨b, off + k * 4 + 1, none⟩) nbw).trans y1
            have D2 := fun y : OwnW wr [] => (y.own.1.cell (p := ⟨b, off + k * 4 + 2, none⟩) nbw).trans y2
            have D3 := fun y : OwnW wr [] => (y.own.1.cell (p := ⟨b, off + k * 4 + 3, none⟩) nbw).trans y3
            have R0 := fun y : OwnW wr [] => (y.own.1.cell (p := ⟨g8, x, none⟩) hg8).trans r0
            have V0 := fun y : OwnW wr [] => (y.own.1.cell (p := ⟨gx, kn, none⟩) hg0).trans v0
            have MW := hide (fun y : OwnW wr [] => HM.out.below (below_via HA.out.own.1 HA.out.own.1.size y.own.1))
            clear hc8 HCL eF HD
            go_upto_region 16 with (fail)
            refine wp_region_own_tail (w := wr) (L := []) 21 (by kernel_rfl) (by kernel_rfl) (Own.start wr) ?_
            simp only [List.take_succ_cons, List.take_zero, List.drop_succ_cons, List.drop_zero]
            repeat (go_big_quiet_step ((rename_i y; with_reducible exact own_call (LT.out _ (MW.out _)))))
            refine wpQuiet_nil ?_
            rintro W ⟨⟨W, HO⟩, rfl⟩
            have HW := hide HO.1
            obtain ⟨z1, z2, z3⟩ := BKW.out _ HO.1
            have FW := hide (FIN.out _ HO.1)
            clear C1 D0 D1 D2 D3 R0 V0 MW NE HO hr y0 y1 y2 y3 r0 v0 BKW FIN
            go_wp2
            go_roundw
            case rel => exact ⟨k + 1, gs', by omega, by go_num, EN, by rw [SW2.out]; exact FW⟩
            case measure => simp [intOf]; omega
          · have di : decide (0 ≤ i) = false := decide_eq_false i0
            have SAME : Hid (∀ j y, arV ss fs inl k j y = arV ss fs inl (k + 1) j y) := hide (fun j y => by
              show _ = arV ss fs inl k j y + _
              rw [HD.out, if_neg (fun e => by have := e.1; omega), Int.add_zero])
            have hr := HA.out.own.r2
            go_wp2
            go_roundw
            case rel => exact ⟨k + 1, gs', by omega, by go_num, EN, hide (HA.out.congr (fun j y _ _ => SAME.out j y))⟩
            case measure => simp [intOf]; omega
    · obtain rfl : k = inl.length := by omega
      have FIN := hide HA.out.tr
      have XB := hide HA.out.own.1
      have hr := HA.out.own.r2
      clear HA
      go_wp2
      go_ret2
      exact ⟨_, gs, rfl, ⟨FIN.out.v |> fun h => ⟨h.1, h.2.imp id fun ⟨g, cap, cur, h1, h2, h3⟩ => ⟨g, cap, cur, h1, by omega, h3⟩⟩, FIN.out.r, FIN.out.nd, fun g hg => by have := FIN.out.ge g hg; omega⟩, HN.out, XB.out⟩
end Go.Proofs.YtaaadejamjbcbaaGreatDoor
