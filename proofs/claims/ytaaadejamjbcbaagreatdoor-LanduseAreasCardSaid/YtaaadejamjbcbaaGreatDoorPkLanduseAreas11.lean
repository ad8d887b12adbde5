/- The reference's Twice, and Areas of a valid surface: the areas of inlets by classes, or the error; nothing that was there is turned (printed by gen_arr.py). -/
import Derived.Test.YtaaadejamjbcbaaGreatDoorPkLanduseAreas9
import Derived.Test.YtaaadejamjbcbaaGreatDoorPkLanduseAreas10
namespace Go.Proofs.YtaaadejamjbcbaaGreatDoor
open Go Go.RowKit

set_option maxRecDepth 100000 in
set_option maxHeartbeats 2000000 in
theorem mrtw_any (ss : List Spt) (fs : List Fce) (A1 A2 : Option Addr) (c1 c2 : Nat) (k : Nat) (w : World) (hm : MshSl w ⟨ss, fs⟩ ⟨A1, c1, A2, c2⟩) (h2 : ss.length ≤ 2000) (hk : k < fs.length) (hcr : crB ss (fcA fs k) = true) :
    Calls Tryz.prog 34 #[.agg #[.slice A1 ss.length c1, .slice A2 fs.length c2], .int .i64 k] w (RetW (.int .i64 (twA ss (fcA fs k))) w) := by
  obtain ⟨b, off, e, hbl, hat⟩ := hm.2.2 (by show 0 < fs.length; omega)
  obtain rfl : A2 = some ⟨b, off, none⟩ := e
  have hlen : fs.length ≤ 9223372036854775807 := hm.2.1.1
  have hat' : FceAt w b (off + k * 4) fs[k] := hat k hk
  have eF : fcA fs k = fs[k] := by simp [fcA, hk]
  rw [eF] at hcr ⊢
  have HM := hide hm
  have X := (Own.start w).alloc #[.slice A1 ss.length c1, .slice (some ⟨b, off, none⟩) fs.length c2] 25
  have hr := X.r1
  have TIN := hide (tri_in h2 hcr)
  generalize fs[k] = t at *
  obtain ⟨ta, tb, tc, tk⟩ := t
  obtain ⟨fa, fb, fc, rfl, rfl, rfl, ha, hb', hc⟩ := crB_natA hcr
  obtain ⟨y0, y1, y2, y3⟩ := hat'
  have TN : Hid (∀ W : World, MshSl W ⟨ss, fs⟩ ⟨A1, c1, some ⟨b, off, none⟩, c2⟩ → Calls Tryz.prog 48 #[.agg #[.slice A1 ss.length c1, .slice (some ⟨b, off, none⟩) fs.length c2], .agg #[.int .i64 fa, .int .i64 fb, .int .i64 fc, .int .i64 tk]] W fun e w' => e = .returned (.int .i64 (twA ss ⟨fa, fb, fc, tk⟩)) ∧ Below W.heap.size W w') := hide (fun W h => mrtrn_any ⟨ss, fs⟩ ⟨A1, c1, some ⟨b, off, none⟩, c2⟩ fa fb fc tk W h ha hb' hc _ rfl TIN.out)
  generalize twA ss ⟨fa, fb, fc, tk⟩ = tw at *
  have k0 : (0 : Int) ≤ (k : Int) := by omega
  have k1 : (k : Int) < (fs.length : Int) := by omega
  have HX := hide X
  clear hm hat eF hcr X
  go_enter Tryz.func34, Tryz.ntmps34
  go_wp2
  have NE : Nonempty (OwnW w [(w.heap.size, 25, #[.slice A1 ss.length c1, .slice (some ⟨b, off, none⟩) fs.length c2])]) := ⟨⟨_, HX.out⟩⟩
  have C1 := fun y : OwnW w [(w.heap.size, 25, #[.slice A1 ss.length c1, .slice (some ⟨b, off, none⟩) fs.length c2])] => y.own.r1
  have D0 := fun y : OwnW w [(w.heap.size, 25, #[.slice A1 ss.length c1, .slice (some ⟨b, off, none⟩) fs.length c2])] => (y.own.1.cell (p := ⟨b, off + k * 4, none⟩) hbl).trans y0
  have D1 := fun y : OwnW w [(w.heap.size, 25, #[.slice A1 ss.length c1, .slice (some ⟨b, off, none⟩) fs.length c2])] => (y.own.1.cell (p := ⟨b, off + k * 4 + 1, none⟩) hbl).trans y1
  have D2 := fun y : OwnW w [(w.heap.size, 25, #[.slice A1 ss.length c1, .slice (some ⟨b, off, none⟩) fs.length c2])] => (y.own.1.cell (p := ⟨b, off + k * 4 + 2, none⟩) hbl).trans y2
  have D3 := fun y : OwnW w [(w.heap.size, 25, #[.slice A1 ss.length c1, .slice (some ⟨b, off, none⟩) fs.length c2])] => (y.own.1.cell (p := ⟨b, off + k * 4 + 3, none⟩) hbl).trans y3
  have MW := hide (fun y : OwnW w [(w.heap.size, 25, #[.slice A1 ss.length c1, .slice (some ⟨b, off, none⟩) fs.length c2])] => HM.out.below y.own.1)
  refine wp_region_own (w := w) (L := [(w.heap.size, 25, #[.slice A1 ss.length c1, .slice (some ⟨b, off, none⟩) fs.length c2])]) (by kernel_rfl) (by kernel_rfl) HX.out ?_
  repeat (go_big_quiet_step ((rename_i y; with_reducible exact own_call (TN.out _ (MW.out _)))))
  refine wpQuiet_nil ?_
  rintro W ⟨⟨W, HO⟩, rfl⟩
  go_wp2
  go_ret
  exact ⟨rfl, HO.1⟩
theorem rwN_s (inl : List Int) (k : Nat) (h : k < inl.length) : rwN inl (k + 1) = max (rwN inl k) (inl[k] + 1).toNat := by
  show max _ _ = _
  rw [show inl.getD k (-1) = inl[k] by simp [h]]
theorem any_no {inl : List Int} (h : ∀ j (h : j < inl.length), bdI inl[j] = false) : inl.any bdI = false := by
  rw [List.any_eq_false]
  intro x hx
  obtain ⟨j, hj, rfl⟩ := List.mem_iff_getElem.1 hx
  rw [h j hj]; simp
theorem any_yes {inl : List Int} {j : Nat} (h : j < inl.length) (hb : bdI inl[j] = true) : inl.any bdI = true := List.any_eq_true.2 ⟨_, List.getElem_mem h, hb⟩
theorem arE_2 {fs : List Fce} {inl : List Int} {n : Int} (h3 : inl.length = fs.length) (h : n < 1 ∨ 16 < n ∨ inl.any bdI = true) : arE fs inl n = 2 := by
  unfold arE; rw [if_neg (by simpa using h3), if_pos h]
theorem arE_11 {fs : List Fce} {inl : List Int} {n : Int} (h3 : inl.length = fs.length) (h1 : 1 ≤ n) (h2 : n ≤ 16) (hb : inl.any bdI = false) {k : Nat} (hk : k < fs.length) (h : n ≤ fs[k].k) : arE fs inl n = 11 := by
  unfold arE
  rw [if_neg (by simpa using h3), if_neg (by rw [hb]; simp; omega), if_pos (List.any_eq_true.2 ⟨_, List.getElem_mem hk, by simpa using h⟩)]
theorem arE_0 {fs : List Fce} {inl : List Int} {n : Int} (h3 : inl.length = fs.length) (h1 : 1 ≤ n) (h2 : n ≤ 16) (hb : inl.any bdI = false) (h : ∀ k (hk : k < fs.length), fs[k].k < n) : arE fs inl n = 0 := by
  unfold arE
  rw [if_neg (by simpa using h3), if_neg (by rw [hb]; simp; omega), if_neg]
  rw [List.any_eq_true]
  rintro ⟨f, hf, h'⟩
  obtain ⟨k, hk, rfl⟩ := List.mem_iff_getElem.1 hf
  have := h k hk
  simp only [decide_eq_true_eq] at h'
  omega
def RArPost (ss : List Spt) (fs : List Fce) (inl : List Int) (n : Int) (w : World) (e : Ending) (w' : World) : Prop :=
  Below w.heap.size w w' ∧ ((arE fs inl n ≠ 0 ∧ e = .returned (.tuple #[.slice none 0 0, .int .i64 (arE fs inl n)])) ∨
    (arE fs inl n = 0 ∧ ∃ V gs, e = .returned (.tuple #[V, .int .i64 0]) ∧ Tr w' w.heap.size V gs n.toNat (arV ss fs inl inl.length) ∧ gs.length = rwN inl inl.length))
theorem RArPost.err {ss : List Spt} {fs : List Fce} {inl : List Int} {n er : Int} {w w' : World} (hb : Below w.heap.size w w') (h : arE fs inl n = er) (h0 : er ≠ 0) : RArPost ss fs inl n w (.returned (.tuple #[.slice none 0 0, .int .i64 er])) w' :=
  ⟨hb, .inl ⟨by rw [h]; exact h0, by rw [h]⟩⟩
set_option maxRecDepth 100000 in
set_option maxHeartbeats 8000000 in
theorem rareas_any (ss : List Spt) (fs : List Fce) (A1 A2 : Option Addr) (c1 c2 : Nat) (inl : List Int) (A : Option Addr) (cp : Nat) (n : Int) (w : World) (hm : MshSl w ⟨ss, fs⟩ ⟨A1, c1, A2, c2⟩) (hi : IntSl w A inl) (hv : vM ⟨ss, fs⟩ = true) :
    Calls Tryz.prog 13 #[.agg #[.slice A1 ss.length c1, .slice A2 fs.length c2], .slice A inl.length cp, .int .i64 n] w (RArPost ss fs inl n w) := by
  have X := (Own.start w).alloc #[.slice A1 ss.length c1, .slice A2 fs.length c2] 25
  have HM := hide hm
  have HI := hide hi
  have hl1 : inl.length ≤ 9223372036854775807 := hi.1.1
  have sm := vM_small hv
  have hr := X.r1
  have FA := hide (fun i (hi : i < fs.length) => vM_face hv i hi)
  have TWB := hide (fun i (hi : i < fs.length) => (trn_bd2 (tri_in sm.1 (vM_face hv i hi).1).1 (tri_in sm.1 (vM_face hv i hi).1).2.1 (tri_in sm.1 (vM_face hv i hi).1).2.2 : -2251799813685248 ≤ twA ss (fcA fs i) ∧ twA ss (fcA fs i) ≤ 2251799813685248))
  have SM := hide sm
  obtain ⟨k0, hk0, hy0, hy1, hy2⟩ := info_parts slI_info
  clear hm hi hv sm
  by_cases h3 : inl.length = fs.length
  case neg =>
    have q1 : ((inl.length : Int) != (fs.length : Int)) = true := by simp; omega
    have q2 : ((inl.length : Int) == (fs.length : Int)) = false := by simp; omega
    have E := hide (show arE fs inl n = 3 by simp [arE, h3])
    clear h3
    go_enter Tryz.func13, Tryz.ntmps13
    go_wp2
    go_ret2
    exact RArPost.err X.1 E.out (by decide)
  have q1 : ((inl.length : Int) != (fs.length : Int)) = false := by simp; omega
  have q2 : ((inl.length : Int) == (fs.length : Int)) = true := by simp; omega
  have H3 := hide h3
  clear h3
  by_cases h1 : n < 1
  · have d1 : decide (n < 1) = true := decide_eq_true h1
    have E := hide (arE_2 H3.out (.inl h1))
    clear h1
    go_enter Tryz.func13, Tryz.ntmps13
    go_wp2
    go_ret2
    exact RArPost.err X.1 E.out (by decide)
  have d1 : decide (n < 1) = false := decide_eq_false h1
  by_cases h2 : 16 < n
  · have d2 : decide (16 < n) = true := decide_eq_true h2
    have E := hide (arE_2 H3.out (.inr (.inl h2)))
    clear h1 h2
    go_enter Tryz.func13, Tryz.ntmps13
    go_wp2
    go_ret2
    exact RArPost.err X.1 E.out (by decide)
  have d2 : decide (16 < n) = false := decide_eq_false h2
  obtain ⟨c, rfl⟩ : ∃ c : Nat, n = (c : Int) := ⟨n.toNat, by omega⟩
  have hc1 : 1 ≤ c := by omega
  have hc2 : c ≤ 16 := by omega
  have d2' : decide (16 < c) = false := decide_eq_false (by omega)
  have MK := make_row c hc2
  have B2 := hide (fun (h : inl.any bdI = true) => arE_2 (n := (c : Int)) H3.out (.inr (.inr h)))
  have HX := hide X
  clear h1 h2 X
  go_enter Tryz.func13, Tryz.ntmps13
  go_wp2
  clear hr
  go_loopw [8, 9] (fun v8 v9 wr => ∃ k : Nat, k ≤ inl.length ∧ v9 = .int .i64 k ∧ v8 = .int .i64 (rwN inl k : Nat) ∧ Hid (Own w wr [(w.heap.size, 25, #[.slice A1 ss.length c1, .slice A2 fs.length c2])]) ∧ Hid (∀ j (h : j < inl.length), j < k → bdI inl[j] = false)) (fun _ v9 _ => inl.length - (intOf v9).toNat)
  case atStart => exact ⟨0, Nat.zero_le _, rfl, rfl, HX, hide (fun j h h' => by omega)⟩
  case round =>
    obtain ⟨k, hk, rfl, rfl, HX, HN⟩ := hrel
    by_cases hlt : k < inl.length
    · obtain ⟨bi, oi, rfl, hbi, hat⟩ := HI.out.2 (by omega)
      have ci := (HX.out.1.cell (p := ⟨bi, oi + k, none⟩) hbi).trans (hat k hlt)
      have RN := hide (rwN_s inl k hlt)
      have BY := hide (fun (h : bdI inl[k] = true) => B2.out (any_yes hlt h))
      have BN := hide (fun (h : bdI inl[k] = false) j (hj : j < inl.length) (hjk : j < k + 1) => (show bdI inl[j] = false by
        by_cases e : j = k
        · subst e; exact h
        · exact HN.out j hj (by omega)))
      clear hat
      generalize inl[k] = i at *
      have k0' : (0 : Int) ≤ (k : Int) := by omega
      have k1' : (k : Int) < (inl.length : Int) := by omega
      have kd : decide (k < inl.length) = true := decide_eq_true hlt
      have hr := HX.out.r1
      by_cases i1 : i < -1
      · have e1 : decide (i < -1) = true := decide_eq_true i1
        have E := hide (BY.out (by simp [bdI, i1]))
        clear i1 RN BY BN
        go_wp2
        go_ret2
        exact RArPost.err HX.out.1 E.out (by decide)
      have e1 : decide (i < -1) = false := decide_eq_false i1
      by_cases i2 : 300 ≤ i
      · have e2 : decide (300 ≤ i) = true := decide_eq_true i2
        have E := hide (BY.out (by simp [bdI, i2]))
        clear i1 i2 RN BY BN
        go_wp2
        go_ret2
        exact RArPost.err HX.out.1 E.out (by decide)
      have e2 : decide (300 ≤ i) = false := decide_eq_false i2
      have HN2 := hide (BN.out (by simp [bdI, i1, i2]))
      by_cases i3 : ((rwN inl k : Nat) : Int) ≤ i
      · have e3 : decide (((rwN inl k : Nat) : Int) ≤ i) = true := decide_eq_true i3
        have E : Hid (i + 1 = ((rwN inl (k + 1) : Nat) : Int)) := hide (by have := RN.out; omega)
        have sw := IntWalk.i64_in (i + 1) (by omega)
        clear i3 RN BY BN HN
        generalize rwN inl k = N at *
        go_wp2
        go_roundw
        case rel => exact ⟨k + 1, by omega, by go_num, by rw [← E.out], HX, HN2⟩
        case measure => simp [intOf]; omega
      · have e3 : decide (((rwN inl k : Nat) : Int) ≤ i) = false := decide_eq_false i3
        have E : Hid (rwN inl k = rwN inl (k + 1)) := hide (by have := RN.out; omega)
        clear i3 RN BY BN HN
        go_wp2
        go_roundw
        case rel => exact ⟨k + 1, by omega, by go_num, by rw [← E.out], HX, HN2⟩
        case measure => simp [intOf]; omega
    · obtain rfl : k = inl.length := by omega
      have NB := hide (any_no (fun j h => HN.out j h h))
      have hr := HX.out.r1
      have RL := hide (rwN_le (inl_bdD NB.out) inl.length)
      clear B2
      have TA : Hid (Ta w wr (w.heap.size + 1) [(w.heap.size, 25, #[.slice A1 ss.length c1, .slice A2 fs.length c2])] (.slice none 0 0) [] c (fun _ _ => 0)) := hide ⟨HX.out, Tr.nil _ _ _ _, fun x hx => (by
        rw [List.mem_singleton.1 hx]
        exact ⟨by simp, show (35 : Nat) ≠ 25 by decide⟩), by omega, (show w.heap.size < wr.heap.size from hr.2.2)⟩
      clear HX
      obtain ⟨N, hN⟩ : ∃ N, N = rwN inl inl.length := ⟨_, rfl⟩
      have HNN := hide hN
      rw [← hN] at RL ⊢
      clear hN
      have rl := RL.out
      go_wp2
      clear hr
      go_loopw [10, 11] (fun v10 v11 wr => ∃ (j : Nat) (gs : List Nat), j ≤ N ∧ v11 = .int .i64 j ∧ Hid (gs.length = j) ∧ Hid (Ta w wr (w.heap.size + 1) [(w.heap.size, 25, #[.slice A1 ss.length c1, .slice A2 fs.length c2])] v10 gs c (fun _ _ => 0))) (fun _ v11 _ => N - (intOf v11).toNat)
      case atStart => exact ⟨0, [], Nat.zero_le _, rfl, hide rfl, TA⟩
      case round =>
        obtain ⟨j, gs, hj, rfl, HG, HA⟩ := hrel
        clear TA
        by_cases hlt : j < N
        · have dd : decide (j < N) = true := decide_eq_true hlt
          have hr := HA.out.own.r1
          obtain ⟨A8, c8, e8, hcap, hcell⟩ := HA.out.tr.slice
          subst e8
          clear hcell
          have gl := HG.out
          have O1 : Below wr.heap.size wr (wr.alloc (.cells (mkRow c fun _ => .int .i64 0) 3)) := (Below.refl _ _).alloc (Nat.le_refl _) _
          have O2 : Below (wr.alloc (.cells (mkRow c fun _ => .int .i64 0) 3)).heap.size (wr.alloc (.cells (mkRow c fun _ => .int .i64 0) 3)) ((wr.alloc (.cells (mkRow c fun _ => .int .i64 0) 3)).alloc (.cells #[.slice (some ⟨wr.heap.size, 0, none⟩) c c] 35)) := (Below.refl _ _).alloc (Nat.le_refl _) _
          have AV := hide ((HA.out.tr.to O1).to O2).v
          have NB2 : Hid (((wr.alloc (.cells (mkRow c fun _ => .int .i64 0) 3)).alloc (.cells #[.slice (some ⟨wr.heap.size, 0, none⟩) c c] 35)).heap[wr.heap.size + 1]? = some (.cells #[.slice (some ⟨wr.heap.size, 0, none⟩) c c] 35)) := hide (by have := heap_alloc_new (wr.alloc (.cells (mkRow c fun _ => .int .i64 0) 3)) (.cells #[.slice (some ⟨wr.heap.size, 0, none⟩) c c] 35); simpa using this)
          have f0' : (0 : Nat) < 1 := by decide
          have f1 : gs.length + 1 ≤ maxLen := by unfold maxLen; omega
          have f2 : (gs.length + 1) * 24 ≤ 140737488355328 := by omega
          have f4 : ∀ u ∈ [Value.slice (some ⟨wr.heap.size, 0, none⟩) c c], u.oneCell' = true := by intro u hu; rw [List.mem_singleton.1 hu]; rfl
          have f5 : w.heap.size + 1 ≤ ((wr.alloc (.cells (mkRow c fun _ => .int .i64 0) 3)).alloc (.cells #[.slice (some ⟨wr.heap.size, 0, none⟩) c c] 35)).heap.size := by have := HA.out.hB.2; simp; omega
          clear O1 O2 gl
          go_wp2_with (at_builtin; refine wpList_append_lies _ rfl _ _ 36 rfl (w.heap.size + 1) 35 k0 (.slice none 0 0) 1 24 Tryz.underlying36 hk0 hy0 hy1 hy2 rfl (by decide) (.slice A8 gs.length c8) gs.length (gs.map fun g => Value.slice (some ⟨g, 0, none⟩) c c) rfl AV.out ⟨wr.heap.size + 1, 0, none⟩ 1 1 [.slice (some ⟨wr.heap.size, 0, none⟩) c c] rfl rfl (World.news_of_block (cs := #[.slice (some ⟨wr.heap.size, 0, none⟩) c c]) (t := 35) (fr := (0, 0)) NB2.out) f4 f0' f1 f2 f5 (wr.heap.size + 2) (by simp) ?_; intro gg cq w4 hown4 hgrow hat4 hlt4)
          have SN := hide (HA.out.app (fun _ _ => rfl) hown4 hgrow)
          clear hown4 hgrow AV NB2 f1 f2 f4 f5
          go_roundw
          case rel => exact ⟨j + 1, gs ++ [wr.heap.size], by omega, by go_num, hide (by rw [List.length_append, HG.out]; rfl), SN⟩
          case measure => simp [intOf]; omega
        · obtain rfl : N = j := by omega
          have hr := HA.out.own.r1
          go_wp2
          clear hr
          obtain ⟨A8, c8, e8, hcap, hcell⟩ := HA.out.tr.slice
          subst e8
          clear hcell
          have HA0 := HA
          clear HA
          go_loopw [12] (fun v12 wr => ∃ k : Nat, k ≤ inl.length ∧ v12 = .int .i64 k ∧ Hid (Ta w wr (w.heap.size + 1) [(w.heap.size, 25, #[.slice A1 ss.length c1, .slice A2 fs.length c2])] (.slice A8 gs.length c8) gs c (fun _ _ => 0)) ∧ Hid (∀ i (h : i < fs.length), i < k → fs[i].k < (c : Int))) (fun v12 _ => inl.length - (intOf v12).toNat)
          case atStart => exact ⟨0, Nat.zero_le _, rfl, HA0, hide (fun i h h' => by omega)⟩
          case round =>
            obtain ⟨k, hk, rfl, HA, HC⟩ := hrel
            clear HA0
            by_cases hlt : k < inl.length
            · have hkf : k < fs.length := by have := H3.out; omega
              obtain ⟨b, off, e, hbl, hat⟩ := HM.out.2.2 (by show 0 < fs.length; omega)
              obtain rfl : A2 = some ⟨b, off, none⟩ := e
              have y3 := (HA.out.own.1.cell (p := ⟨b, _, none⟩) hbl).trans (hat k hkf).2.2.2
              have EY := hide (fun (h : (c : Int) ≤ fs[k].k) => arE_11 H3.out (show 1 ≤ (c : Int) by omega) (show (c : Int) ≤ 16 by omega) NB.out hkf h)
              have EN := hide (fun (h : fs[k].k < (c : Int)) i (hi : i < fs.length) (hik : i < k + 1) => (show fs[i].k < (c : Int) by
                by_cases e : i = k
                · subst e; exact h
                · exact HC.out i hi (by omega)))
              replace y3 : wr.cell? ⟨b, off + k * 4 + 3, none⟩ = some (.int .i64 fs[k].k) := y3
              clear hat
              generalize fs[k].k = tk at *
              have k0' : (0 : Int) ≤ (k : Int) := by omega
              have k1' : (k : Int) < (fs.length : Int) := by omega
              have kd : decide (k < inl.length) = true := decide_eq_true hlt
              have hr := HA.out.own.r1
              by_cases i1 : (c : Int) ≤ tk
              · have e1 : decide ((c : Int) ≤ tk) = true := decide_eq_true i1
                have E := hide (EY.out i1)
                clear i1 EY EN
                go_wp2
                go_ret2
                exact RArPost.err HA.out.own.1 E.out (by decide)
              · have e1 : decide ((c : Int) ≤ tk) = false := decide_eq_false i1
                have HC2 := hide (EN.out (by omega))
                clear i1 EY EN
                go_wp2
                go_roundw
                case rel => exact ⟨k + 1, by omega, by go_num, HA, HC2⟩
                case measure => simp [intOf]; omega
            · obtain rfl : k = inl.length := by omega
              have HCA := hide (fun i (h : i < fs.length) => HC.out i h (by have := H3.out; omega))
              have E0 := hide (arE_0 H3.out (show 1 ≤ (c : Int) by omega) (show (c : Int) ≤ 16 by omega) NB.out HCA.out)
              have hr := HA.out.own.r1
              have HA1 : Hid (Ta w wr (w.heap.size + 1) [(w.heap.size, 25, #[.slice A1 ss.length c1, .slice A2 fs.length c2])] (.slice A8 gs.length c8) gs c (arV ss fs inl 0)) := hide (HA.out.congr (fun _ _ _ _ => rfl))
              clear HA HC
              go_wp2
              clear hr
              go_loopw [13] (fun v13 wr => ∃ k : Nat, k ≤ inl.length ∧ v13 = .int .i64 k ∧ Hid (Ta w wr (w.heap.size + 1) [(w.heap.size, 25, #[.slice A1 ss.length c1, .slice A2 fs.length c2])] (.slice A8 gs.length c8) gs c (arV ss fs inl k))) (fun v13 _ => inl.length - (intOf v13).toNat)
              case atStart => exact ⟨0, Nat.zero_le _, rfl, HA1⟩
              case round =>
                obtain ⟨k, hk, rfl, HA⟩ := hrel
                clear HA1
                by_cases hlt : k < inl.length
                · obtain ⟨bi, oi, e, hbi, hat⟩ := HI.out.2 (by omega)
                  obtain rfl : A = some ⟨bi, oi, none⟩ := e
                  have nbi : bi < wr.heap.size := Nat.lt_of_lt_of_le hbi HA.out.own.1.size
                  have ci := (HA.out.own.1.cell (p := ⟨bi, oi + k, none⟩) hbi).trans (hat k hlt)
                  have ib := inl_bd NB.out hlt
                  have HD : Hid (inl.getD k (-1) = inl[k]) := hide (by simp [hlt])
                  have RN : Hid ((inl[k] + 1).toNat ≤ N) := hide (by
                    rw [HNN.out]
                    have mono : ∀ a b : Nat, a ≤ b → rwN inl a ≤ rwN inl b := fun a b hab => by
                      induction hab with
                      | refl => exact Nat.le_refl _
                      | step _ ih => exact Nat.le_trans ih (Nat.le_max_left _ _)
                    have := mono (k + 1) inl.length (by omega)
                    have := rwN_s inl k hlt
                    omega)
                  clear hat
                  generalize inl[k] = i at *
                  have k0' : (0 : Int) ≤ (k : Int) := by omega
                  have k1' : (k : Int) < (inl.length : Int) := by omega
                  have kd : decide (k < inl.length) = true := decide_eq_true hlt
                  by_cases i0 : 0 ≤ i
                  · obtain ⟨x, rfl⟩ : ∃ x : Nat, i = (x : Int) := ⟨i.toNat, by omega⟩
                    have hx : x < gs.length := by have := HG.out; have := RN.out; omega
                    have hkf : k < fs.length := by have := H3.out; omega
                    obtain ⟨b, off, e, hbl, hat⟩ := HM.out.2.2 (by show 0 < fs.length; omega)
                    obtain rfl : A2 = some ⟨b, off, none⟩ := e
                    have y3 := (HA.out.own.1.cell (p := ⟨b, _, none⟩) hbl).trans (hat k hkf).2.2.2
                    replace y3 : wr.cell? ⟨b, off + k * 4 + 3, none⟩ = some (.int .i64 fs[k].k) := y3
                    have nbw : b < wr.heap.size := Nat.lt_of_lt_of_le hbl HA.out.own.1.size
                    have eF : Hid (fcA fs k = fs[k]) := hide (by simp [fcA, hkf])
                    have fcr := (FA.out k hkf).1
                    have fkk := HCA.out k hkf
                    have twb : -2251799813685248 ≤ twA ss (fcA fs k) ∧ twA ss (fcA fs k) ≤ 2251799813685248 := TWB.out k hkf
                    have BD := hide (arV_bd (inl := inl) TWB.out x (fs[k].k).toNat k (by omega))
                    have TW := hide (fun W h => mrtw_any ss fs A1 (some ⟨b, off, none⟩) c1 c2 k W h SM.out.1 hkf fcr)
                    unfold RetW at TW
                    have tk0 : 0 ≤ fs[k].k := by
                      rw [eF.out] at fcr
                      simp only [crB, Bool.and_eq_true, decide_eq_true_eq] at fcr
                      exact fcr.1.2
                    have EK : Hid ((fcA fs k).k = fs[k].k) := hide (by rw [eF.out])
                    clear fcr hat eF
                    generalize fs[k].k = tk at *
                    obtain ⟨kn, rfl⟩ : ∃ kn : Nat, tk = (kn : Int) := ⟨tk.toNat, by omega⟩
                    have hkn : kn < c := by omega
                    obtain ⟨A9, c9, e9, _, hcell⟩ := HA.out.tr.slice
                    injection e9 with e9 _ e10
                    subst e9
                    obtain ⟨g8, e8, hg8, hc8⟩ := hcell (by omega)
                    obtain rfl : A8 = some ⟨g8, 0, none⟩ := e8
                    have r0 := hc8 x hx
                    have v0 := HA.out.tr.val hx hkn
                    have BK := HA.out.tr.r x hx
                    have glt := BK.lt
                    have ARS : Hid (∀ j y, arV ss fs inl (k + 1) j y = arV ss fs inl k j y + if (x : Int) = (j : Int) ∧ (kn : Int) = (y : Int) then twA ss (fcA fs k) else 0) := hide (fun j y => by
                      show arV ss fs inl k j y + _ = _
                      rw [HD.out, EK.out])
                    have SET := hide (fun W' (h : Below wr.heap.size wr W') u => (HA.out.to h).set hx hkn u)
                    replace BD : Hid (-(2251799813685248 * (k : Int)) ≤ arV ss fs inl k x kn ∧ arV ss fs inl k x kn ≤ 2251799813685248 * (k : Int)) := BD
                    have k4 : k < 4000 := by have := SM.out.2; omega
                    have sb : -9223372036854775808 ≤ arV ss fs inl k x kn + twA ss (fcA fs k) ∧ arV ss fs inl k x kn + twA ss (fcA fs k) ≤ 9223372036854775807 := by
                      obtain ⟨p1, p2⟩ := BD.out
                      obtain ⟨p3, p4⟩ := twb
                      exact ⟨by omega, by omega⟩
                    have sw2 : wrap64 (arV ss fs inl k x kn + twA ss (fcA fs k)) = arV ss fs inl k x kn + twA ss (fcA fs k) := IntWalk.wrap64_in _ sb
                    have FIN : Hid (∀ W', Below wr.heap.size wr W' → ∀ s, s = arV ss fs inl k x kn + twA ss (fcA fs k) → Ta w (W'.setCell ⟨gs[x], kn, none⟩ (.int .i64 s)) (w.heap.size + 1) [(w.heap.size, 25, #[.slice A1 ss.length c1, .slice (some ⟨b, off, none⟩) fs.length c2])] (.slice (some ⟨g8, 0, none⟩) gs.length c8) gs c (arV ss fs inl (k + 1))) := hide (fun W' h s hs => (SET.out W' h s).congr (fun j y _ _ => by
                      rw [ARS.out j y]
                      by_cases e : j = x ∧ y = kn
                      · obtain ⟨rfl, rfl⟩ := e
                        rw [if_pos ⟨rfl, rfl⟩, if_pos ⟨rfl, rfl⟩, hs]
                      · rw [if_neg e, if_neg (by omega), Int.add_zero]))
                    obtain ⟨s, hs⟩ : ∃ s, s = arV ss fs inl k x kn + twA ss (fcA fs k) := ⟨_, rfl⟩
                    replace FIN := hide (fun W' h => FIN.out W' h s hs)
                    have SW2 : Hid (wrap64 (arV ss fs inl k x kn + twA ss (fcA fs k)) = s) := hide (sw2.trans hs.symm)
                    have HE10 := hide e10
                    clear ARS SET sb BD twb hs RN sw2 e10 EK
                    have sx0 : (0 : Int) ≤ (x : Int) := by omega
                    have sx1 : (x : Int) < (gs.length : Int) := by omega
                    have kn0 : (0 : Int) ≤ (kn : Int) := by omega
                    have kn1 : (kn : Int) < (c : Int) := by omega
                    have kf1 : (k : Int) < (fs.length : Int) := by omega
                    have di : decide ((0 : Int) ≤ (x : Int)) = true := decide_eq_true sx0
                    generalize arV ss fs inl k x kn = old at *
                    generalize twA ss (fcA fs k) = tw at *
                    have BKW := hide (fun W' (h : Below wr.heap.size wr W') => And.intro ((h.cell (p := ⟨gs[x], kn, none⟩) glt).trans v0) (And.intro ((BK.below h glt).frozen kn) (BK.below h glt).lt))
                    clear BK
                    have hg0 : gs[x] < wr.heap.size := glt
                    generalize gs[x] = gx at *
                    have hr := HA.out.own.r1
                    have NE : Nonempty (OwnW wr []) := ⟨⟨_, Own.start wr⟩⟩
                    have C1 := fun y : OwnW wr [] => (HA.out.to y.own.1).own.r1
                    have D3 := fun y : OwnW wr [] => (y.own.1.cell (p := ⟨b, off + k * 4 + 3, none⟩) nbw).trans y3
                    have I0 := fun y : OwnW wr [] => (y.own.1.cell (p := ⟨bi, oi + k, none⟩) nbi).trans ci
                    have R0 := fun y : OwnW wr [] => (y.own.1.cell (p := ⟨g8, x, none⟩) hg8).trans r0
                    have V0 := fun y : OwnW wr [] => (y.own.1.cell (p := ⟨gx, kn, none⟩) hg0).trans v0
                    have MW := hide (fun y : OwnW wr [] => HM.out.below (below_via HA.out.own.1 HA.out.own.1.size y.own.1))
                    clear hc8 hcell HD
                    go_upto_region 27 with (fail)
                    refine wp_region_own_tail (w := wr) (L := []) 33 (by kernel_rfl) (by kernel_rfl) (Own.start wr) ?_
                    simp only [List.take_succ_cons, List.take_zero, List.drop_succ_cons, List.drop_zero]
                    repeat (go_big_quiet_step ((rename_i y; with_reducible exact own_call (TW.out _ (MW.out _)))))
                    refine wpQuiet_nil ?_
                    rintro W ⟨⟨W, HO⟩, rfl⟩
                    obtain ⟨z1, z2, z3⟩ := BKW.out _ HO.1
                    have FW := hide (FIN.out _ HO.1)
                    clear C1 D3 I0 R0 V0 MW NE HO hr y3 r0 v0 BKW FIN ci
                    go_wp2
                    go_roundw
                    case rel => exact ⟨k + 1, by omega, by go_num, by rw [SW2.out]; exact FW⟩
                    case measure => simp [intOf]; omega
                  · have di : decide (0 ≤ i) = false := decide_eq_false i0
                    have SAME : Hid (∀ j y, arV ss fs inl k j y = arV ss fs inl (k + 1) j y) := hide (fun j y => by
                      show _ = arV ss fs inl k j y + _
                      rw [HD.out, if_neg (fun e => by have := e.1; omega), Int.add_zero])
                    have hr := HA.out.own.r1
                    go_wp2
                    go_roundw
                    case rel => exact ⟨k + 1, by omega, by go_num, hide (HA.out.congr (fun j y _ _ => SAME.out j y))⟩
                    case measure => simp [intOf]; omega
                · obtain rfl : k = inl.length := by omega
                  have FIN := hide HA.out.tr
                  have XB := hide HA.out.own.1
                  have hr := HA.out.own.r1
                  clear HA
                  go_wp2
                  go_ret2
                  exact ⟨XB.out, .inr ⟨E0.out, _, gs, rfl, ⟨FIN.out.v |> fun h => ⟨h.1, h.2.imp id fun ⟨g, cap, cur, h1, h2, h3⟩ => ⟨g, cap, cur, h1, by omega, h3⟩⟩, FIN.out.r, FIN.out.nd, fun g hg => by have := FIN.out.ge g hg; omega⟩, HG.out.trans HNN.out⟩⟩
end Go.Proofs.YtaaadejamjbcbaaGreatDoor
