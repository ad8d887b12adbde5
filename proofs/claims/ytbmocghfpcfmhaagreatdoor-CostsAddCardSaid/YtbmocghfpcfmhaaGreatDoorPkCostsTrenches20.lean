/- The reference's Check of a surface: whether it finds something; nothing that was there is turned (printed by gen_mrx.py). -/
import Derived.Test.YtbmocghfpcfmhaaGreatDoorPkCostsTrenches19
import Derived.Deep.RegionHeldLaw
namespace Go.Proofs.YtbmocghfpcfmhaaGreatDoor
open Go Go.RowKit

theorem two_one (i : Int) (s : ByteArray) : ∀ u ∈ ([.int .i64 i, .string s] : List Value), u.oneCell' = true := by
  intro u hu
  simp only [List.mem_cons, List.not_mem_nil, or_false] at hu
  rcases hu with rfl | rfl <;> rfl
theorem one_app {a b : List Value} (ha : ∀ u ∈ a, u.oneCell' = true) (hb : ∀ u ∈ b, u.oneCell' = true) : ∀ u ∈ a ++ b, u.oneCell' = true := by
  intro u hu
  rcases List.mem_append.1 hu with h | h
  · exact ha u h
  · exact hb u h
theorem fin2_yes {l : List Spt} {k j : Nat} (hj : j < k) (h : okS (spA l k) = true) (h1 : okS (spA l j) = true) (h2 : (spA l j).pt = (spA l k).pt) : fin2 l (k + 1) = fin2 l k ++ [k] := by
  unfold fin2
  rw [filt_s, if_pos]
  rw [h, Bool.true_and, List.any_eq_true]
  exact ⟨j, List.mem_range.2 hj, by rw [h1, Bool.true_and]; exact decide_eq_true h2⟩
theorem fin2_no {l : List Spt} {k : Nat} (h : ∀ j, j < k → ¬ (okS (spA l j) = true ∧ (spA l j).pt = (spA l k).pt)) : fin2 l (k + 1) = fin2 l k := by
  unfold fin2
  rw [filt_s, if_neg, List.append_nil]
  simp only [Bool.and_eq_true, List.any_eq_true, List.mem_range, decide_eq_true_eq, not_and, not_exists]
  intro _ j hj h1 h2
  exact h j hj ⟨h1, h2⟩
theorem fin2_bad {l : List Spt} {k : Nat} (h : okS (spA l k) = false) : fin2 l (k + 1) = fin2 l k := by
  unfold fin2
  rw [filt_s, if_neg (by simp [h]), List.append_nil]
theorem fin1_yes {l : List Spt} {k : Nat} (h : okS (spA l k) = false) : fin1 l (k + 1) = fin1 l k ++ [k] := by
  unfold fin1; rw [filt_s, if_pos (by simp [h])]
theorem fin1_no {l : List Spt} {k : Nat} (h : okS (spA l k) = true) : fin1 l (k + 1) = fin1 l k := by
  unfold fin1; rw [filt_s, if_neg (by simp [h]), List.append_nil]
theorem Rows1.bd {l : List Spt} {k : Nat} {L : Nat → List Nat} (h : Rows1 l k L) : ∀ j, (L j).length ≤ k := by
  obtain ⟨h1, h2, h3⟩ := h
  intro j
  by_cases e1 : j = 1
  · subst e1; rw [h1]; exact fin_len k
  · by_cases e2 : j = 2
    · subst e2; rw [h2]; exact fin_len k
    · rw [h3 j e1 e2]; simp
theorem Rows1.far {l : List Spt} {k : Nat} {L : Nat → List Nat} (h : Rows1 l k L) (hk : okS (spA l k) = false) : Rows1 l (k + 1) (upF L 1 (L 1 ++ [k])) :=
  ⟨by rw [fin1_yes hk, ← h.1]; rfl, by rw [fin2_bad hk, ← h.2.1]; rfl, fun j h1 h2 => by show (if j = 1 then _ else L j) = []; rw [if_neg h1]; exact h.2.2 j h1 h2⟩
theorem Rows1.same {l : List Spt} {k j : Nat} {L : Nat → List Nat} (h : Rows1 l k L) (hj : j < k) (hk : okS (spA l k) = true) (h1 : okS (spA l j) = true) (h2 : (spA l j).pt = (spA l k).pt) : Rows1 l (k + 1) (upF L 2 (L 2 ++ [k])) :=
  ⟨by rw [fin1_no hk, ← h.1]; rfl, by rw [fin2_yes hj hk h1 h2, ← h.2.1]; rfl, fun j h1 h2 => by show (if j = 2 then _ else L j) = []; rw [if_neg h2]; exact h.2.2 j h1 h2⟩
theorem Rows1.none {l : List Spt} {k : Nat} {L : Nat → List Nat} (h : Rows1 l k L) (hk : okS (spA l k) = true) (hn : ∀ j, j < k → ¬ (okS (spA l j) = true ∧ (spA l j).pt = (spA l k).pt)) : Rows1 l (k + 1) L :=
  ⟨by rw [fin1_no hk, h.1], by rw [fin2_no hn, h.2.1], h.2.2⟩
theorem Rows1.two {l : List Spt} {fs : List Fce} {L : Nat → List Nat} (h : Rows1 l l.length L) : Rows2 l fs 0 L :=
  ⟨h.2.2 0 (by decide) (by decide), h.1, h.2.1, h.2.2 3 (by decide) (by decide), h.2.2 4 (by decide) (by decide), h.2.2 5 (by decide) (by decide), h.2.2 6 (by decide) (by decide)⟩
def nullF : Array Value := #[.slice none 0 0, .slice none 0 0, .slice none 0 0, .slice none 0 0, .slice none 0 0, .slice none 0 0, .slice none 0 0]
theorem make_seven (W : World) : (Instr.makeSlice 117 (.int .i64 7) (.int .i64 7)).run Tryz.prog W = .ok (.slice (some ⟨W.heap.size, 0, none⟩) 7 7) (W.alloc (.cells (cF fun _ => .slice none 0 0) 79)) := by kernel_rfl
theorem find_infoR : (Tryz.prog.info? 121).map (fun i => (i.zero, i.size, i.bytes)) = some (some (.agg #[.int .i64 0, .string ⟨#[]⟩]), 2, 24) := by kernel_rfl
theorem face_infoR : (Tryz.prog.info? 62).map (fun i => (i.zero, i.size, i.bytes)) = some (some (.agg #[.int .i64 0, .int .i64 0, .int .i64 0, .int .i64 0]), 4, 32) := by kernel_rfl
set_option maxRecDepth 100000 in
set_option maxHeartbeats 8000000 in
theorem mrcheck_any (ss : List Spt) (fs : List Fce) (A1 A2 : Option Addr) (c1 c2 : Nat) (w : World) (hm : MshSl w ⟨ss, fs⟩ ⟨A1, c1, A2, c2⟩) (h1 : ss.length ≤ 2000) (h2 : fs.length ≤ 4000) :
    Calls Tryz.prog 41 #[.agg #[.slice A1 ss.length c1, .slice A2 fs.length c2]] w fun e w' => (∃ A N c, e = .returned (.slice A N c) ∧ (N = 0 ↔ vM ⟨ss, fs⟩ = true)) ∧ Below w.heap.size w w' := by
  have X := ((Own.start w).alloc #[.slice A1 ss.length c1, .slice A2 fs.length c2] 25).alloc (cF fun _ => .slice none 0 0) 79
  rw [World.size_alloc] at X
  have HM := hide hm
  have MK := make_seven
  have DC := hide (fun n hn W => mrdec_any n W hn)
  obtain ⟨k0, hk0, hy0, hy1, hy2⟩ := info_parts find_infoR
  have SR0 : Hid (Sr w ((w.alloc (.cells #[.slice A1 ss.length c1, .slice A2 fs.length c2] 25)).alloc (.cells (cF fun _ => .slice none 0 0) 79)) (w.heap.size + 1) [(w.heap.size, 25, #[.slice A1 ss.length c1, .slice A2 fs.length c2])] (fun _ => .slice none 0 0) (fun _ => []) (.slice none 0 0) []) :=
    hide ⟨X, SixF.nil _ _, World.ownsRow_nil _ _ _ _, by simp, by simp, by omega⟩
  have hr := X.r2
  clear hm X
  go_enter Tryz.func41, Tryz.ntmps41
  go_wp2
  clear MK hr
  generalize hbL : w.heap.size + 1 = bL at *
  clear hbL
  -- ONE begin
  go_loopw [4] (fun v4 wr => ∃ (k : Nat) (f : Nat → Value) (L : Nat → List Nat), k ≤ ss.length ∧ v4 = .int .i64 k ∧ Hid (Sr w wr bL [(w.heap.size, 25, #[.slice A1 ss.length c1, .slice A2 fs.length c2])] f L (.slice none 0 0) []) ∧ Hid (Rows1 ss k L)) (fun v4 _ => ss.length - (intOf v4).toNat)
  case atStart => exact ⟨0, _, _, Nat.zero_le _, rfl, SR0, hide ⟨rfl, rfl, fun _ _ _ => rfl⟩⟩
  case round =>
    obtain ⟨k, f, L, hk, rfl, HX, HL⟩ := hrel
    clear SR0
    by_cases hlt : k < ss.length
    · obtain ⟨b, off, e, hbl, hat⟩ := HM.out.1.2 (by show 0 < ss.length; omega)
      obtain rfl : A1 = some ⟨b, off, none⟩ := e
      have HAT := hide hat
      obtain ⟨d0, d1, d2⟩ := hat k hlt
      replace d0 := (HX.out.own.1.cell (p := ⟨b, _, none⟩) hbl).trans d0
      replace d1 := (HX.out.own.1.cell (p := ⟨b, _, none⟩) hbl).trans d1
      replace d2 := (HX.out.own.1.cell (p := ⟨b, _, none⟩) hbl).trans d2
      have eS : Hid (spA ss (k : Int) = ss[k]) := hide (by simp [spA, hlt])
      have SPs : Hid (∀ W : World, Calls Tryz.prog 73 #[.agg #[.int .i64 ss[k].x, .int .i64 ss[k].y, .int .i64 ss[k].z]] W fun e w' => e = .returned (.bool (okS ss[k])) ∧ Below W.heap.size W w') := hide (fun W => mrspot_any ss[k].x ss[k].y ss[k].z W)
      have LB := hide (fun j => HL.out.bd j)
      generalize ss[k] = s at *
      clear hat
      have hr := HX.out.own.r2
      replace HX := hide (HX.out.alloc #[.int .i64 s.x, .int .i64 s.y, .int .i64 s.z] 60 (by decide))
      cases hok : okS s with
      | false =>
        rw [hok] at SPs
        have RN := hide (HL.out.far (by rw [eS.out]; exact hok))
        clear hok eS
        go_wp2_with fail
        refine (SPs.out _).mono ?_
        rintro e w2 ⟨rfl, hb⟩
        replace HX := hide (HX.out.to hb)
        clear hb hr SPs d0 d1 d2 HL
        have f0' : (0 : Nat) < 1 := by decide
        have f1 : (L 1).length + 1 ≤ maxLen := by have := LB.out 1; unfold maxLen; omega
        have f2 : ((L 1).length + 1) * 24 ≤ 140737488355328 := by have := LB.out 1; omega
        have cf : (cF f)[1]? = some (f 1) := rfl
        have hr := HX.out.own.r3
        go_wp2_with fail
        go_region_law
          (first
            | (go_simp; go_at_call 74; refine (DC.out k (by omega) _).mono ?_; rintro e w3 ⟨⟨sv, rfl⟩, hb3⟩; have Y3 := hide (HX.out.drew.to hb3); have hr3 := Y3.out.own.r3; obtain ⟨xs, hxs, hx1⟩ := Y3.out.six.row 1 (by decide); have AV := hide (hxs.alloc (.cells #[.int .i64 1, .string sv] 121)); have HX1 := hide hx1; clear hx1 hxs)
            | (refine step_append_lies _ (by rfl) _ _ _ (by rfl) w.heap.size 121 k0 _ 2 24 Tryz.underlying79 hk0 hy0 hy1 hy2 rfl (by omega) _ (L 1).length xs (by rfl) AV.out ⟨w3.heap.size, 0, none⟩ 1 1 [.int .i64 1, .string sv] (by rfl) rfl (World.news_of_block (cs := #[.int .i64 1, .string sv]) (t := 121) (fr := (0, 0)) (heap_alloc_new w3 _)) (two_one _ _) f0' f1 f2 (by have := Y3.out.own.1.size; simp; omega) (w3.heap.size + 1) (by simp) ?_; intro gg cp w4 hown4 hgrow hat4 hlt4; have hr4 := (Y3.out.own_new (k := 1) (by decide) hgrow).r3))
        all_goals
          have SN := hide (Y3.out.app (k := 1) (x := k) (by decide) ⟨_, hown4, one_app HX1.out (two_one _ _)⟩ hgrow (by simpa using hat4))
          clear Y3 hown4 hgrow hr4 hr3 hb3 hat4 hlt4 AV HX1 f0' f1 f2 cf
          go_wp2
          go_roundw
          case rel => exact ⟨k + 1, _, _, by omega, by go_num, hide SN.out.tail, RN⟩
          case measure => simp [intOf]; omega
      | true =>
        rw [hok] at SPs
        have OKK := hide hok
        have HSP := hide (fun (j : Nat) (hj : j < ss.length) W => mrspot_any ss[j].x ss[j].y ss[j].z W)
        unfold RetW at HSP
        have HPT := hide (fun (x y z : Int) W => mrpoint_any x y z W)
        unfold RetW at HPT
        clear hok
        go_wp2_with fail
        refine (SPs.out _).mono ?_
        rintro e w2 ⟨rfl, hb⟩
        replace HX := hide (HX.out.to hb)
        clear hb hr SPs d0 d1 d2
        have hr := HX.out.own.r3
        generalize hbs : wr.heap.size = bs at *
        clear hbs
        go_wp2
        clear hr
        go_loopw [6] (fun v6 wr => ∃ j : Nat, j ≤ k ∧ v6 = .int .i64 j ∧ Hid (Sr w wr bL [(bs, 60, #[.int .i64 s.x, .int .i64 s.y, .int .i64 s.z]), (w.heap.size, 25, #[.slice (some ⟨b, off, none⟩) ss.length c1, .slice A2 fs.length c2])] f L (.slice none 0 0) []) ∧ Hid (∀ i, i < j → ¬ (okS (spA ss i) = true ∧ (spA ss i).pt = s.pt))) (fun v6 _ => k - (intOf v6).toNat)
        case atStart => exact ⟨0, Nat.zero_le _, rfl, HX, hide (fun j hj => by omega)⟩
        case round =>
          obtain ⟨j, hj, rfl, HX, HN⟩ := hrel
          by_cases hjk : j < k
          · have hjs : j < ss.length := by omega
            obtain ⟨d0, d1, d2⟩ := HAT.out j hjs
            have eJ : Hid (spA ss (j : Int) = ss[j]) := hide (by simp [spA, hjs])
            have SPj : Hid (∀ W : World, Calls Tryz.prog 73 #[.agg #[.int .i64 ss[j].x, .int .i64 ss[j].y, .int .i64 ss[j].z]] W fun e w' => e = .returned (.bool (okS ss[j])) ∧ Below W.heap.size W w') := hide (fun W => HSP.out j hjs W)
            generalize ss[j] = t at *
            have PTj : Hid (∀ W : World, Calls Tryz.prog 75 #[.agg #[.int .i64 t.x, .int .i64 t.y, .int .i64 t.z]] W fun e w' => e = .returned (.agg #[.int .i64 t.x, .int .i64 t.y]) ∧ Below W.heap.size W w') := hide (fun W => HPT.out t.x t.y t.z W)
            have PTs : Hid (∀ W : World, Calls Tryz.prog 75 #[.agg #[.int .i64 s.x, .int .i64 s.y, .int .i64 s.z]] W fun e w' => e = .returned (.agg #[.int .i64 s.x, .int .i64 s.y]) ∧ Below W.heap.size W w') := hide (fun W => HPT.out s.x s.y s.z W)
            have STEP := hide (fun (h : ¬ (okS t = true ∧ t.pt = s.pt)) i (hi : i < j + 1) => (show ¬ (okS (spA ss i) = true ∧ (spA ss i).pt = s.pt) by
              by_cases e : i = j
              · subst e; rw [eJ.out]; exact h
              · exact HN.out i (by omega)))
            have YES := hide (fun (h : okS t = true) (h' : t.pt = s.pt) => HL.out.same hjk (by rw [eS.out]; exact OKK.out) (by rw [eJ.out]; exact h) (by rw [eJ.out, eS.out]; exact h'))
            have j0 : (0 : Int) ≤ (j : Int) := by omega
            have nbw : b < wr.heap.size := Nat.lt_of_lt_of_le hbl HX.out.own.1.size
            replace d0 := (HX.out.own.1.cell (p := ⟨b, _, none⟩) hbl).trans d0
            replace d1 := (HX.out.own.1.cell (p := ⟨b, _, none⟩) hbl).trans d1
            replace d2 := (HX.out.own.1.cell (p := ⟨b, _, none⟩) hbl).trans d2
            have j1 : (j : Int) < (ss.length : Int) := by omega
            clear HN eJ
            have hr := HX.out.own.r3
            cases htk : okS t with
            | false =>
              rw [htk] at SPj
              have HN2 := hide (STEP.out (fun h => by rw [htk] at h; cases h.1))
              clear YES STEP htk
              have NE : Nonempty (OwnW wr []) := ⟨⟨_, Own.start wr⟩⟩
              have C1 := fun x : OwnW wr [] => (HX.out.to x.own.1).own.r3
              have D0 := fun x : OwnW wr [] => (x.own.1.cell (p := ⟨b, off + j * 3, none⟩) nbw).trans d0
              have D1 := fun x : OwnW wr [] => (x.own.1.cell (p := ⟨b, off + j * 3 + 1, none⟩) nbw).trans d1
              have D2 := fun x : OwnW wr [] => (x.own.1.cell (p := ⟨b, off + j * 3 + 2, none⟩) nbw).trans d2
              go_wp2_with fail
              refine wp_region_own (w := wr) (L := []) (by kernel_rfl) (by kernel_rfl) (Own.start wr) ?_
              repeat (go_big_quiet_step ((rename_i x; with_reducible exact own_call (SPj.out _))))
              refine wpQuiet_nil ?_
              rintro W ⟨⟨W, HO⟩, rfl⟩
              replace HX := hide (HX.out.to HO.1)
              clear C1 NE HO
              clear D0 D1 D2
              go_wp2
              go_roundw
              case rel => exact ⟨j + 1, by omega, by go_num, HX, HN2⟩
              case measure => simp [intOf]; omega
            | true =>
              rw [htk] at SPj
              by_cases ep : t.pt = s.pt
              · have RN := hide (YES.out htk ep)
                have ex : t.x = s.x := congrArg Pnt.x ep
                have ey : t.y = s.y := congrArg Pnt.y ep
                have PTj' : Hid (∀ W : World, Calls Tryz.prog 75 #[.agg #[.int .i64 t.x, .int .i64 t.y, .int .i64 t.z]] W fun e w' => e = .returned (.agg #[.int .i64 s.x, .int .i64 s.y]) ∧ Below W.heap.size W w') := hide (by rw [← ex, ← ey]; exact PTj.out)
                clear STEP YES htk ep ex ey PTj
                have NE : Nonempty (OwnW wr []) := ⟨⟨_, Own.start wr⟩⟩
                have C1 := fun x : OwnW wr [] => (HX.out.to x.own.1).own.r3
                have D0 := fun x : OwnW wr [] => (x.own.1.cell (p := ⟨b, off + j * 3, none⟩) nbw).trans d0
                have D1 := fun x : OwnW wr [] => (x.own.1.cell (p := ⟨b, off + j * 3 + 1, none⟩) nbw).trans d1
                have D2 := fun x : OwnW wr [] => (x.own.1.cell (p := ⟨b, off + j * 3 + 2, none⟩) nbw).trans d2
                go_wp2_with fail
                refine wp_region_own (w := wr) (L := []) (by kernel_rfl) (by kernel_rfl) (Own.start wr) ?_
                repeat (go_big_quiet_step ((rename_i x; first | with_reducible exact own_call (SPj.out _) | with_reducible exact own_call (PTs.out _) | with_reducible exact own_call (PTj'.out _))))
                refine wpQuiet_nil ?_
                rintro W ⟨⟨W, HO⟩, rfl⟩
                replace HX := hide (HX.out.to HO.1)
                clear C1 NE HO
                clear D0 D1 D2
                have f0' : (0 : Nat) < 1 := by decide
                have f1 : (L 2).length + 1 ≤ maxLen := by have := LB.out 2; unfold maxLen; omega
                have f2 : ((L 2).length + 1) * 24 ≤ 140737488355328 := by have := LB.out 2; omega
                have cf : (cF f)[2]? = some (f 2) := rfl
                have hr := HX.out.own.r3
                go_wp2_with fail
                go_region_law
                  (first
                    | (go_simp; go_at_call 74; refine (DC.out k (by omega) _).mono ?_; rintro e w3 ⟨⟨sv, rfl⟩, hb3⟩; have Y3 := hide (HX.out.drew.to hb3); have hr3 := Y3.out.own.r3; obtain ⟨xs, hxs, hx1⟩ := Y3.out.six.row 2 (by decide); have AV := hide (hxs.alloc (.cells #[.int .i64 2, .string sv] 121)); have HX1 := hide hx1; clear hx1 hxs)
                    | (refine step_append_lies _ (by rfl) _ _ _ (by rfl) w.heap.size 121 k0 _ 2 24 Tryz.underlying79 hk0 hy0 hy1 hy2 rfl (by omega) _ (L 2).length xs (by rfl) AV.out ⟨w3.heap.size, 0, none⟩ 1 1 [.int .i64 2, .string sv] (by rfl) rfl (World.news_of_block (cs := #[.int .i64 2, .string sv]) (t := 121) (fr := (0, 0)) (heap_alloc_new w3 _)) (two_one _ _) f0' f1 f2 (by have := Y3.out.own.1.size; simp; omega) (w3.heap.size + 1) (by simp) ?_; intro gg cp w4 hown4 hgrow hat4 hlt4; have hr4 := (Y3.out.own_new (k := 2) (by decide) hgrow).r3))
                all_goals
                  have SN := hide (Y3.out.app (k := 2) (x := k) (by decide) ⟨_, hown4, one_app HX1.out (two_one _ _)⟩ hgrow (by simpa using hat4))
                  clear Y3 hown4 hgrow hr4 hr3 hb3 hat4 hlt4 AV HX1 f0' f1 f2 cf
                  go_wp2
                  go_roundw
                  case rel => exact ⟨k + 1, _, _, by omega, by go_num, hide SN.out.tail, RN⟩
                  case measure => simp [intOf]; omega
              · have HN2 := hide (STEP.out (fun h => ep h.2))
                have EP := hide ep
                clear STEP YES htk ep
                by_cases ex : t.x = s.x
                · have ey : ¬ t.y = s.y := fun h => EP.out (show (⟨t.x, t.y⟩ : Pnt) = ⟨s.x, s.y⟩ by rw [ex, h])
                  have PTj' : Hid (∀ W : World, Calls Tryz.prog 75 #[.agg #[.int .i64 t.x, .int .i64 t.y, .int .i64 t.z]] W fun e w' => e = .returned (.agg #[.int .i64 s.x, .int .i64 t.y]) ∧ Below W.heap.size W w') := hide (by rw [← ex]; exact PTj.out)
                  have qy2 : (t.y == s.y) = false := by simpa using ey
                  clear ex PTj
                  have NE : Nonempty (OwnW wr []) := ⟨⟨_, Own.start wr⟩⟩
                  have C1 := fun x : OwnW wr [] => (HX.out.to x.own.1).own.r3
                  have D0 := fun x : OwnW wr [] => (x.own.1.cell (p := ⟨b, off + j * 3, none⟩) nbw).trans d0
                  have D1 := fun x : OwnW wr [] => (x.own.1.cell (p := ⟨b, off + j * 3 + 1, none⟩) nbw).trans d1
                  have D2 := fun x : OwnW wr [] => (x.own.1.cell (p := ⟨b, off + j * 3 + 2, none⟩) nbw).trans d2
                  go_wp2_with fail
                  refine wp_region_own (w := wr) (L := []) (by kernel_rfl) (by kernel_rfl) (Own.start wr) ?_
                  repeat (go_big_quiet_step ((rename_i x; first | with_reducible exact own_call (SPj.out _) | with_reducible exact own_call (PTs.out _) | with_reducible exact own_call (PTj'.out _))))
                  refine wpQuiet_nil ?_
                  rintro W ⟨⟨W, HO⟩, rfl⟩
                  replace HX := hide (HX.out.to HO.1)
                  clear C1 NE HO
                  clear D0 D1 D2
                  go_wp2
                  go_roundw
                  case rel => exact ⟨j + 1, by omega, by go_num, HX, HN2⟩
                  case measure => simp [intOf]; omega
                · have qx2 : (t.x == s.x) = false := by simpa using ex
                  clear EP
                  have NE : Nonempty (OwnW wr []) := ⟨⟨_, Own.start wr⟩⟩
                  have C1 := fun x : OwnW wr [] => (HX.out.to x.own.1).own.r3
                  have D0 := fun x : OwnW wr [] => (x.own.1.cell (p := ⟨b, off + j * 3, none⟩) nbw).trans d0
                  have D1 := fun x : OwnW wr [] => (x.own.1.cell (p := ⟨b, off + j * 3 + 1, none⟩) nbw).trans d1
                  have D2 := fun x : OwnW wr [] => (x.own.1.cell (p := ⟨b, off + j * 3 + 2, none⟩) nbw).trans d2
                  go_wp2_with fail
                  refine wp_region_own (w := wr) (L := []) (by kernel_rfl) (by kernel_rfl) (Own.start wr) ?_
                  repeat (go_big_quiet_step ((rename_i x; first | with_reducible exact own_call (SPj.out _) | with_reducible exact own_call (PTs.out _) | with_reducible exact own_call (PTj.out _))))
                  refine wpQuiet_nil ?_
                  rintro W ⟨⟨W, HO⟩, rfl⟩
                  replace HX := hide (HX.out.to HO.1)
                  clear C1 NE HO
                  clear D0 D1 D2
                  go_wp2
                  go_roundw
                  case rel => exact ⟨j + 1, by omega, by go_num, HX, HN2⟩
                  case measure => simp [intOf]; omega
          · obtain rfl : j = k := by omega
            have RN := hide (HL.out.none (by rw [eS.out]; exact OKK.out) (fun i hi => by rw [eS.out]; exact HN.out i hi))
            have hr := HX.out.own.r3
            go_wp2
            go_roundw
            case rel => exact ⟨j + 1, _, _, by omega, by go_num, hide HX.out.tail, RN⟩
            case measure => simp [intOf]; omega
    · obtain rfl : k = ss.length := by omega
      have hr := HX.out.own.r2
      have R2 := hide (Rows1.two (fs := fs) HL.out)
      clear HL
      -- TWO begin
      generalize hL2 : L = L2 at *
      clear hL2
      go_wp2
      clear hr
      have SR2 : Hid (Sr w wr bL [(w.heap.size, 25, #[.slice A1 ss.length c1, .slice A2 fs.length c2])] f L2 (.slice none 0 0) (sndF ss fs 0)) := HX
      clear HX
      go_loopw [7, 8] (fun v7 v8 wr => ∃ (j : Nat) (f : Nat → Value) (L : Nat → List Nat), j ≤ fs.length ∧ v8 = .int .i64 j ∧ Hid (Sr w wr bL [(w.heap.size, 25, #[.slice A1 ss.length c1, .slice A2 fs.length c2])] f L v7 (sndF ss fs j)) ∧ Hid (Rows2 ss fs j L)) (fun _ v8 _ => fs.length - (intOf v8).toNat)
      case atStart => exact ⟨0, _, _, Nat.zero_le _, rfl, SR2, R2⟩
      case round =>
        clear SR2 R2
        obtain ⟨j, f, L, hj, rfl, HX, RW⟩ := hrel
        by_cases hlt : j < fs.length
        · obtain ⟨b, off, e, hbl, hat⟩ := HM.out.2.2 (by show 0 < fs.length; omega)
          obtain rfl : A2 = some ⟨b, off, none⟩ := e
          obtain ⟨d0, d1, d2, d3⟩ := hat j hlt
          replace d0 := (HX.out.own.1.cell (p := ⟨b, _, none⟩) hbl).trans d0
          replace d1 := (HX.out.own.1.cell (p := ⟨b, _, none⟩) hbl).trans d1
          replace d2 := (HX.out.own.1.cell (p := ⟨b, _, none⟩) hbl).trans d2
          replace d3 := (HX.out.own.1.cell (p := ⟨b, _, none⟩) hbl).trans d3
          have eF : Hid (fcA fs j = fs[j]) := hide (by simp [fcA, hlt])
          have CN : Hid (∀ W : World, MshSl W ⟨ss, fs⟩ ⟨A1, c1, some ⟨b, off, none⟩, c2⟩ → Calls Tryz.prog 76 #[.agg #[.slice A1 ss.length c1, .slice (some ⟨b, off, none⟩) fs.length c2], .agg #[.int .i64 fs[j].a, .int .i64 fs[j].b, .int .i64 fs[j].c, .int .i64 fs[j].k]] W fun e w' => e = .returned (.bool (crB ss fs[j])) ∧ Below W.heap.size W w') := hide (fun W h => mrcorn_any ⟨ss, fs⟩ ⟨A1, c1, some ⟨b, off, none⟩, c2⟩ fs[j].a fs[j].b fs[j].c fs[j].k W h)
          have LB := hide (RW.out.bd h1 (show j ≤ 4000 by omega))
          generalize fs[j] = t at *
          clear hat
          obtain ⟨ta, tb, tc, fk⟩ := t
          have hr := HX.out.own.r2
          replace HX := hide (HX.out.alloc #[.int .i64 ta, .int .i64 tb, .int .i64 tc, .int .i64 fk] 62 (by decide))
          have HMw := hide (HM.out.below HX.out.own.1)
          cases hcr : crB ss ⟨ta, tb, tc, fk⟩ with
          | false =>
            rw [hcr] at CN
            have RN := hide (rows_bad RW.out (by rw [eF.out]; exact hcr))
            have SN2 := hide (sndF_no (ss := ss) (fs := fs) (k := j) (by rw [eF.out, hcr, Bool.false_and]))
            clear hcr eF
            go_wp2_with fail
            refine (CN.out _ HMw.out).mono ?_
            rintro e w2 ⟨rfl, hb⟩
            replace HX := hide (HX.out.to hb)
            clear hb hr CN d0 d1 d2 d3 RW HMw
            have f0' : (0 : Nat) < 1 := by decide
            have f1 : (L 3).length + 1 ≤ maxLen := by have := LB.out 3 (by decide); unfold maxLen; omega
            have f2 : ((L 3).length + 1) * 24 ≤ 140737488355328 := by have := LB.out 3 (by decide); omega
            have cf : (cF f)[3]? = some (f 3) := rfl
            have hr := HX.out.own.r3
            go_wp2_with fail
            go_region_law
              (first
                | (go_simp; go_at_call 74; refine (DC.out j (by omega) _).mono ?_; rintro e w3 ⟨⟨sv, rfl⟩, hb3⟩; have Y3 := hide (HX.out.drew.to hb3); have hr3 := Y3.out.own.r3; obtain ⟨xs, hxs, hx1⟩ := Y3.out.six.row 3 (by decide); have AV := hide (hxs.alloc (.cells #[.int .i64 3, .string sv] 121)); have HX1 := hide hx1; clear hx1 hxs)
                | (refine step_append_lies _ (by rfl) _ _ _ (by rfl) w.heap.size 121 k0 _ 2 24 Tryz.underlying79 hk0 hy0 hy1 hy2 rfl (by omega) _ (L 3).length xs (by rfl) AV.out ⟨w3.heap.size, 0, none⟩ 1 1 [.int .i64 3, .string sv] (by rfl) rfl (World.news_of_block (cs := #[.int .i64 3, .string sv]) (t := 121) (fr := (0, 0)) (heap_alloc_new w3 _)) (two_one _ _) f0' f1 f2 (by have := Y3.out.own.1.size; simp; omega) (w3.heap.size + 1) (by simp) ?_; intro gg cp w4 hown4 hgrow hat4 hlt4; have hr4 := (Y3.out.own_new (k := 3) (by decide) hgrow).r3))
            all_goals
              have SN := hide (Y3.out.app (k := 3) (x := j) (by decide) ⟨_, hown4, one_app HX1.out (two_one _ _)⟩ hgrow (by simpa using hat4))
              clear Y3 hown4 hgrow hr4 hr3 hb3 hat4 hlt4 AV HX1 f0' f1 f2 cf
              go_wp2
              go_roundw
              case rel => exact ⟨j + 1, _, _, by omega, by go_num, by rw [SN2.out]; exact hide SN.out.tail, RN⟩
              case measure => simp [intOf]; omega
          | true =>
            rw [hcr] at CN
            obtain ⟨fa, fb, fc, rfl, rfl, rfl, ha, hb', hc⟩ := crB_nat hcr
            have HCR := hide hcr
            have TIN := hide (tri_in h1 hcr)
            obtain ⟨T, eT⟩ : ∃ T, triA ss ⟨fa, fb, fc, fk⟩ = T := ⟨_, rfl⟩
            rw [eT] at TIN
            have ET := hide eT
            have HB3 := hide (And.intro ha (And.intro hb' hc))
            have TR := hide (fun W h => mrtrn_any ⟨ss, fs⟩ ⟨A1, c1, some ⟨b, off, none⟩, c2⟩ fa fb fc fk W h ha hb' hc T eT TIN.out)
            unfold RetW at TR
            have EP : Hid (posB ss ⟨fa, fb, fc, fk⟩ = decide (0 < trn T.p T.q T.r)) := hide (by rw [← eT]; rfl)
            generalize trn T.p T.q T.r = tn at *
            clear hcr eT ha hb' hc
            go_wp2_with fail
            refine (CN.out _ HMw.out).mono ?_
            rintro e w2 ⟨rfl, hb⟩
            replace HX := hide (HX.out.to hb)
            clear hb hr CN d0 d1 d2 d3 HMw
            have HMw := hide (HM.out.below HX.out.own.1)
            have hr := HX.out.own.r3
            generalize hbf : wr.heap.size = bf at *
            clear hbf
            go_wp2_with fail
            refine (TR.out _ HMw.out).mono ?_
            rintro e w3 ⟨rfl, hb⟩
            replace HX := hide (HX.out.to hb)
            clear hb hr TR HMw
            by_cases hps : tn ≤ 0
            · have qt : decide (tn ≤ 0) = true := decide_eq_true hps
              have HPS : Hid (posB ss ⟨fa, fb, fc, fk⟩ = false) := hide (EP.out.trans (decide_eq_false (by omega)))
              have RN := hide (rows_flat RW.out (by rw [eF.out]; exact HCR.out) (by rw [eF.out]; exact HPS.out))
              have SN2 := hide (sndF_no (ss := ss) (fs := fs) (k := j) (by rw [eF.out, HPS.out, Bool.and_false]))
              clear EP hps eF RW HPS
              have f0' : (0 : Nat) < 1 := by decide
              have f1 : (L 4).length + 1 ≤ maxLen := by have := LB.out 4 (by decide); unfold maxLen; omega
              have f2 : ((L 4).length + 1) * 24 ≤ 140737488355328 := by have := LB.out 4 (by decide); omega
              have cf : (cF f)[4]? = some (f 4) := rfl
              have hr := HX.out.own.r3
              go_wp2_with fail
              go_region_law
                (first
                  | (go_simp; go_at_call 74; refine (DC.out j (by omega) _).mono ?_; rintro e w3 ⟨⟨sv, rfl⟩, hb3⟩; have Y3 := hide (HX.out.drew.to hb3); have hr3 := Y3.out.own.r3; obtain ⟨xs, hxs, hx1⟩ := Y3.out.six.row 4 (by decide); have AV := hide (hxs.alloc (.cells #[.int .i64 4, .string sv] 121)); have HX1 := hide hx1; clear hx1 hxs)
                  | (refine step_append_lies _ (by rfl) _ _ _ (by rfl) w.heap.size 121 k0 _ 2 24 Tryz.underlying79 hk0 hy0 hy1 hy2 rfl (by omega) _ (L 4).length xs (by rfl) AV.out ⟨w3.heap.size, 0, none⟩ 1 1 [.int .i64 4, .string sv] (by rfl) rfl (World.news_of_block (cs := #[.int .i64 4, .string sv]) (t := 121) (fr := (0, 0)) (heap_alloc_new w3 _)) (two_one _ _) f0' f1 f2 (by have := Y3.out.own.1.size; simp; omega) (w3.heap.size + 1) (by simp) ?_; intro gg cp w4 hown4 hgrow hat4 hlt4; have hr4 := (Y3.out.own_new (k := 4) (by decide) hgrow).r3))
              all_goals
                have SN := hide (Y3.out.app (k := 4) (x := j) (by decide) ⟨_, hown4, one_app HX1.out (two_one _ _)⟩ hgrow (by simpa using hat4))
                clear Y3 hown4 hgrow hr4 hr3 hb3 hat4 hlt4 AV HX1 f0' f1 f2 cf
                go_wp2
                go_roundw
                case rel => exact ⟨j + 1, _, _, by omega, by go_num, by rw [SN2.out]; exact hide SN.out.tail, RN⟩
                case measure => simp [intOf]; omega
            · have qt : decide (tn ≤ 0) = false := decide_eq_false hps
              have HPS : Hid (posB ss ⟨fa, fb, fc, fk⟩ = true) := hide (EP.out.trans (decide_eq_true (by omega)))
              have R5 := hide (rows_5 RW.out (by rw [eF.out]; exact HCR.out) (by rw [eF.out]; exact HPS.out) (a := (sndF ss fs j).any (ssB ⟨fa, fb, fc, fk⟩)) (by rw [eF.out]; exact sndF_ss _))
              have R6 := hide (fun (L2 : Nat → List Nat) (h : Rows3 ss fs j L2) => rows_6 h (by rw [eF.out]; exact HCR.out) (by rw [eF.out]; exact HPS.out) (a := (sndF ss fs j).any (fun g => ovlB T (triA ss g))) (by rw [eF.out, ET.out]; exact sndF_ov T))
              have SNY : Hid (sndF ss fs (j + 1) = sndF ss fs j ++ [⟨fa, fb, fc, fk⟩]) := hide (by rw [sndF_yes (by rw [eF.out, HCR.out, HPS.out]; rfl), eF.out])
              clear EP hps eF RW HPS HCR
              obtain ⟨Ar, cr, eV, _⟩ := sndF_sl h1 (show j ≤ 4000 by omega) HX.out.snd
              subst eV
              have hr := HX.out.own.r3
              go_wp2
              clear hr
              have SLK := hide (fun (W : World) (v : Value) (h : W.ownsRow w.heap.size 62 4 v (sndF ss fs j).length (flatFce (sndF ss fs j))) => sndF_sl h1 (show j ≤ 4000 by omega) h)
              have SCR := hide (fun (i : Nat) (h : i < (sndF ss fs j).length) => sndF_cr h)
              have SLN := hide (@sndF_len ss fs j)
              generalize sndF ss fs j = S at *
              -- IN begin
              go_loopw [10, 11, 12] (fun v10 v11 v12 wr => ∃ (i : Nat) (q1 q2 : Bool), i ≤ S.length ∧ v12 = .int .i64 i ∧ v10 = .bool q1 ∧ v11 = .bool q2 ∧ Hid (q1 = (S.take i).any (ssB ⟨fa, fb, fc, fk⟩)) ∧ Hid (q2 = (S.take i).any fun g => ovlB T (triA ss g)) ∧ Hid (Sr w wr bL [(bf, 62, #[.int .i64 fa, .int .i64 fb, .int .i64 fc, .int .i64 fk]), (w.heap.size, 25, #[.slice A1 ss.length c1, .slice (some ⟨b, off, none⟩) fs.length c2])] f L (.slice Ar S.length cr) S)) (fun _ _ v12 _ => S.length - (intOf v12).toNat)
              case atStart => exact ⟨0, _, _, Nat.zero_le _, rfl, rfl, rfl, hide rfl, hide rfl, HX⟩
              case round =>
                obtain ⟨i, q1, q2, hi, rfl, rfl, rfl, Q1, Q2, HX⟩ := hrel
                by_cases hik : i < S.length
                · obtain ⟨A', c', e', hs'⟩ := SLK.out _ _ HX.out.snd
                  injection e' with e1 _ e3
                  subst e1
                  subst e3
                  have i4 : i < 4000 := by have := SLN.out; omega
                  obtain ⟨gb, goff, e2, nbw, gat⟩ := hs'.2 (by omega)
                  obtain rfl : Ar = some ⟨gb, goff, none⟩ := e2
                  obtain ⟨g0, g1, g2, g3⟩ := gat i hik
                  have GCR := SCR.out i hik
                  have T1 : Hid ((S.take (i + 1)).any (ssB ⟨fa, fb, fc, fk⟩) = ((S.take i).any (ssB ⟨fa, fb, fc, fk⟩) || ssB ⟨fa, fb, fc, fk⟩ S[i])) := hide (any_take_s hik)
                  have T2 : Hid ((S.take (i + 1)).any (fun g => ovlB T (triA ss g)) = ((S.take i).any (fun g => ovlB T (triA ss g)) || ovlB T (triA ss S[i]))) := hide (any_take_s hik)
                  rw [← Q1.out] at T1
                  rw [← Q2.out] at T2
                  clear Q1 Q2 gat hs'
                  generalize S[i] = g at *
                  obtain ⟨ya, yb, yc, gk⟩ := g
                  obtain ⟨xa, xb, xc, rfl, rfl, rfl, ka, kb, kc⟩ := crB_nat GCR
                  have UIN := tri_in h1 GCR
                  obtain ⟨U, eU⟩ : ∃ U, triA ss ⟨xa, xb, xc, gk⟩ = U := ⟨_, rfl⟩
                  have SSC : Hid (∀ W : World, Calls Tryz.prog 78 #[.agg #[.int .i64 fa, .int .i64 fb, .int .i64 fc, .int .i64 fk], .agg #[.int .i64 xa, .int .i64 xb, .int .i64 xc, .int .i64 gk]] W fun e w' => e = .returned (.bool (ssB ⟨fa, fb, fc, fk⟩ ⟨xa, xb, xc, gk⟩)) ∧ Below W.heap.size W w') := hide (fun W => mrsame_any fa fb fc fk xa xb xc gk W)
                  have OVC : Hid (∀ W : World, MshSl W ⟨ss, fs⟩ ⟨A1, c1, some ⟨b, off, none⟩, c2⟩ → Calls Tryz.prog 79 #[.agg #[.slice A1 ss.length c1, .slice (some ⟨b, off, none⟩) fs.length c2], .agg #[.int .i64 fa, .int .i64 fb, .int .i64 fc, .int .i64 fk], .agg #[.int .i64 xa, .int .i64 xb, .int .i64 xc, .int .i64 gk]] W fun e w' => e = .returned (.bool (ovlB T U)) ∧ Below W.heap.size W w') := hide (fun W h => mrover_any ⟨ss, fs⟩ ⟨A1, c1, some ⟨b, off, none⟩, c2⟩ fa fb fc xa xb xc fk gk W h HB3.out.1 HB3.out.2.1 HB3.out.2.2 ka kb kc T U ET.out eU TIN.out (eU ▸ UIN))
                  rw [eU] at T2
                  generalize ssB ⟨fa, fb, fc, fk⟩ ⟨xa, xb, xc, gk⟩ = r1 at *
                  generalize ovlB T U = r2 at *
                  clear eU UIN GCR ka kb kc
                  have j0 : (0 : Int) ≤ (i : Int) := by omega
                  have j1 : (i : Int) < (S.length : Int) := by omega
                  have d11 : decide (i < S.length) = true := decide_eq_true hik
                  have hr := HX.out.own.r3
                  have HI := hide hi
                  clear hi
                  go_upto_region 26 with (fail)
                  go_cut [10] from 119 to 127 (fun v10 wx => v10 = .bool (q1 || r1) ∧ Hid (Sr w wx bL [(bf, 62, #[.int .i64 fa, .int .i64 fb, .int .i64 fc, .int .i64 fk]), (w.heap.size, 25, #[.slice A1 ss.length c1, .slice (some ⟨b, off, none⟩) fs.length c2])] f L (.slice (some ⟨gb, goff, none⟩) S.length cr) S) ∧ Hid (Below wr.heap.size wr wx))
                  case first =>
                    cases q1
                    all_goals
                      have NE : Nonempty (OwnW wr []) := ⟨⟨_, Own.start wr⟩⟩
                      have C1 := fun x : OwnW wr [] => (HX.out.to x.own.1).own.r3
                      have D0 := fun x : OwnW wr [] => (x.own.1.cell (p := ⟨gb, goff + i * 4, none⟩) nbw).trans g0
                      have D1 := fun x : OwnW wr [] => (x.own.1.cell (p := ⟨gb, goff + i * 4 + 1, none⟩) nbw).trans g1
                      have D2 := fun x : OwnW wr [] => (x.own.1.cell (p := ⟨gb, goff + i * 4 + 2, none⟩) nbw).trans g2
                      have D3 := fun x : OwnW wr [] => (x.own.1.cell (p := ⟨gb, goff + i * 4 + 3, none⟩) nbw).trans g3
                      go_wp2_with fail
                      refine wp_region_own (w := wr) (L := []) (by kernel_rfl) (by kernel_rfl) (Own.start wr) ?_
                      repeat (go_big_quiet_step ((rename_i x; with_reducible exact own_call (SSC.out _))))
                      refine wpQuiet_nil ?_
                      rintro W ⟨⟨W, HO⟩, rfl⟩
                      replace HX := hide (HX.out.to HO.1)
                      have HO2 := hide HO.1
                      clear C1 NE HO
                      clear D0 D1 D2 D3 hr g0 g1 g2 g3
                      go_wp2_with fail
                      go_meet
                      exact ⟨rfl, HX, HO2⟩
                  case rest =>
                    obtain ⟨rfl, HX, HO2⟩ := hcut
                    replace g0 := (HO2.out.cell (p := ⟨gb, _, none⟩) nbw).trans g0
                    replace g1 := (HO2.out.cell (p := ⟨gb, _, none⟩) nbw).trans g1
                    replace g2 := (HO2.out.cell (p := ⟨gb, _, none⟩) nbw).trans g2
                    replace g3 := (HO2.out.cell (p := ⟨gb, _, none⟩) nbw).trans g3
                    have nbw2 : gb < wc.heap.size := Nat.lt_of_lt_of_le nbw HO2.out.size
                    clear hr nbw HO2 SSC
                    have hr := HX.out.own.r3
                    have MW := hide (fun x : OwnW wc [] => HM.out.below (below_via HX.out.own.1 HX.out.own.1.size x.own.1))
                    cases q2
                    all_goals
                      have NE : Nonempty (OwnW wc []) := ⟨⟨_, Own.start wc⟩⟩
                      have C1 := fun x : OwnW wc [] => (HX.out.to x.own.1).own.r3
                      have D0 := fun x : OwnW wc [] => (x.own.1.cell (p := ⟨gb, goff + i * 4, none⟩) nbw2).trans g0
                      have D1 := fun x : OwnW wc [] => (x.own.1.cell (p := ⟨gb, goff + i * 4 + 1, none⟩) nbw2).trans g1
                      have D2 := fun x : OwnW wc [] => (x.own.1.cell (p := ⟨gb, goff + i * 4 + 2, none⟩) nbw2).trans g2
                      have D3 := fun x : OwnW wc [] => (x.own.1.cell (p := ⟨gb, goff + i * 4 + 3, none⟩) nbw2).trans g3
                      go_wp2_with fail
                      refine wp_region_own (w := wc) (L := []) (by kernel_rfl) (by kernel_rfl) (Own.start wc) ?_
                      repeat (go_big_quiet_step ((rename_i x; with_reducible exact own_call (OVC.out _ (MW.out _)))))
                      refine wpQuiet_nil ?_
                      rintro W ⟨⟨W, HO⟩, rfl⟩
                      replace HX := hide (HX.out.to HO.1)
                      clear C1 NE HO
                      clear D0 D1 D2 D3 hr MW g0 g1 g2 g3
                      go_wp2
                      go_roundw
                      case rel => exact ⟨i + 1, _, _, by omega, by go_num, rfl, rfl, hide T1.out.symm, hide T2.out.symm, HX⟩
                      case measure => simp [intOf]; omega
                · obtain rfl : i = S.length := by omega
                  replace Q1 : Hid (q1 = S.any (ssB ⟨fa, fb, fc, fk⟩)) := hide (by have := Q1.out; rwa [List.take_length] at this)
                  replace Q2 : Hid (q2 = S.any fun g => ovlB T (triA ss g)) := hide (by have := Q2.out; rwa [List.take_length] at this)
                  rw [← Q1.out] at R5
                  rw [← Q2.out] at R6
                  clear Q1 Q2 SLK SCR
                  go_upto_if 138 with (fail)
                  go_cut [] from 139 to 148 (fun wx => ∃ (f2 : Nat → Value) (L2 : Nat → List Nat), Hid (Sr w wx bL [(bf, 62, #[.int .i64 fa, .int .i64 fb, .int .i64 fc, .int .i64 fk]), (w.heap.size, 25, #[.slice A1 ss.length c1, .slice (some ⟨b, off, none⟩) fs.length c2])] f2 L2 (.slice Ar S.length cr) S) ∧ Hid (Rows3 ss fs j L2))
                  case first =>
                    cases q1 with
                    | true =>
                      have f0' : (0 : Nat) < 1 := by decide
                      have f1 : (L 5).length + 1 ≤ maxLen := by have := LB.out 5 (by decide); unfold maxLen; omega
                      have f2 : ((L 5).length + 1) * 24 ≤ 140737488355328 := by have := LB.out 5 (by decide); omega
                      have cf : (cF f)[5]? = some (f 5) := rfl
                      have hr := HX.out.own.r3
                      go_wp2_with fail
                      go_region_law
                        (first
                          | (go_simp; go_at_call 74; refine (DC.out j (by omega) _).mono ?_; rintro e w3 ⟨⟨sv, rfl⟩, hb3⟩; have Y3 := hide (HX.out.drew.to hb3); have hr3 := Y3.out.own.r3; obtain ⟨xs, hxs, hx1⟩ := Y3.out.six.row 5 (by decide); have AV := hide (hxs.alloc (.cells #[.int .i64 5, .string sv] 121)); have HX1 := hide hx1; clear hx1 hxs)
                          | (refine step_append_lies _ (by rfl) _ _ _ (by rfl) w.heap.size 121 k0 _ 2 24 Tryz.underlying79 hk0 hy0 hy1 hy2 rfl (by omega) _ (L 5).length xs (by rfl) AV.out ⟨w3.heap.size, 0, none⟩ 1 1 [.int .i64 5, .string sv] (by rfl) rfl (World.news_of_block (cs := #[.int .i64 5, .string sv]) (t := 121) (fr := (0, 0)) (heap_alloc_new w3 _)) (two_one _ _) f0' f1 f2 (by have := Y3.out.own.1.size; simp; omega) (w3.heap.size + 1) (by simp) ?_; intro gg cp w4 hown4 hgrow hat4 hlt4; have hr4 := (Y3.out.own_new (k := 5) (by decide) hgrow).r3))
                      all_goals
                        have SN := hide (Y3.out.app (k := 5) (x := j) (by decide) ⟨_, hown4, one_app HX1.out (two_one _ _)⟩ hgrow (by simpa using hat4))
                        clear Y3 hown4 hgrow hr4 hr3 hb3 hat4 hlt4 AV HX1 f0' f1 f2 cf
                        go_wp2_with fail
                        go_meet
                        exact ⟨_, _, SN, hide (R5.out.1 (by trivial))⟩
                    | false =>
                      go_wp2_with fail
                      go_meet
                      exact ⟨_, _, HX, hide (R5.out.2 (by trivial))⟩
                  case rest =>
                    clear LB R5 HX
                    obtain ⟨f, L, HX, R3⟩ := hcut
                    have LB6 : Hid ((L 6).length ≤ 4000) := hide (by rw [R3.out.2.2.2.2.2.2]; exact Nat.le_trans (fin_len j) (by omega))
                    replace R6 := hide (R6.out L R3.out)
                    clear R3
                    go_upto_if 149 with (fail)
                    go_cut [] from 150 to 159 (fun wx => ∃ (f2 : Nat → Value) (L2 : Nat → List Nat), Hid (Sr w wx bL [(bf, 62, #[.int .i64 fa, .int .i64 fb, .int .i64 fc, .int .i64 fk]), (w.heap.size, 25, #[.slice A1 ss.length c1, .slice (some ⟨b, off, none⟩) fs.length c2])] f2 L2 (.slice Ar S.length cr) S) ∧ Hid (Rows2 ss fs (j + 1) L2))
                    case first =>
                      generalize hwc : wc = wd at *
                      clear hwc
                      cases q2 with
                      | true =>
                        have f0' : (0 : Nat) < 1 := by decide
                        have f1 : (L 6).length + 1 ≤ maxLen := by have := LB6.out; unfold maxLen; omega
                        have f2 : ((L 6).length + 1) * 24 ≤ 140737488355328 := by have := LB6.out; omega
                        have cf : (cF f)[6]? = some (f 6) := rfl
                        have hr := HX.out.own.r3
                        go_wp2_with fail
                        go_region_law
                          (first
                            | (go_simp; go_at_call 74; refine (DC.out j (by omega) _).mono ?_; rintro e w3 ⟨⟨sv, rfl⟩, hb3⟩; have Y3 := hide (HX.out.drew.to hb3); have hr3 := Y3.out.own.r3; obtain ⟨xs, hxs, hx1⟩ := Y3.out.six.row 6 (by decide); have AV := hide (hxs.alloc (.cells #[.int .i64 6, .string sv] 121)); have HX1 := hide hx1; clear hx1 hxs)
                            | (refine step_append_lies _ (by rfl) _ _ _ (by rfl) w.heap.size 121 k0 _ 2 24 Tryz.underlying79 hk0 hy0 hy1 hy2 rfl (by omega) _ (L 6).length xs (by rfl) AV.out ⟨w3.heap.size, 0, none⟩ 1 1 [.int .i64 6, .string sv] (by rfl) rfl (World.news_of_block (cs := #[.int .i64 6, .string sv]) (t := 121) (fr := (0, 0)) (heap_alloc_new w3 _)) (two_one _ _) f0' f1 f2 (by have := Y3.out.own.1.size; simp; omega) (w3.heap.size + 1) (by simp) ?_; intro gg cp w4 hown4 hgrow hat4 hlt4; have hr4 := (Y3.out.own_new (k := 6) (by decide) hgrow).r3))
                        all_goals
                          have SN := hide (Y3.out.app (k := 6) (x := j) (by decide) ⟨_, hown4, one_app HX1.out (two_one _ _)⟩ hgrow (by simpa using hat4))
                          clear Y3 hown4 hgrow hr4 hr3 hb3 hat4 hlt4 AV HX1 f0' f1 f2 cf
                          go_wp2_with fail
                          go_meet
                          exact ⟨_, _, SN, hide (R6.out.1 (by trivial))⟩
                      | false =>
                        go_wp2_with fail
                        go_meet
                        exact ⟨_, _, HX, hide (R6.out.2 (by trivial))⟩
                    case rest =>
                      clear LB6 R6 HX
                      obtain ⟨f, L, HX, RN⟩ := hcut
                      have hr := HX.out.own.r3
                      have f0' : (0 : Nat) < 1 := by decide
                      have f1 : S.length + 1 ≤ maxLen := by have := SLN.out; unfold maxLen; omega
                      have f2 : (S.length + 1) * 32 ≤ 140737488355328 := by have := SLN.out; omega
                      have f4 : ∀ u ∈ ([.int .i64 fa, .int .i64 fb, .int .i64 fc, .int .i64 fk] : List Value), u.oneCell' = true := by
                        intro u hu
                        simp only [List.mem_cons, List.not_mem_nil, or_false] at hu
                        rcases hu with rfl | rfl | rfl | rfl <;> rfl
                      have f5 : w.heap.size ≤ (wc.alloc (.cells #[.int .i64 fa, .int .i64 fb, .int .i64 fc, .int .i64 fk] 62)).heap.size := by have := HX.out.own.1.size; simp; omega
                      have AV := hide (HX.out.snd.alloc (.cells #[.int .i64 fa, .int .i64 fb, .int .i64 fc, .int .i64 fk] 62))
                      obtain ⟨i0, hi0, hz0, hz1, hz2⟩ := info_parts face_infoR
                      go_wp2_with (at_builtin; refine wpList_append_lies _ rfl _ _ 23 rfl w.heap.size 62 i0 (.agg #[.int .i64 0, .int .i64 0, .int .i64 0, .int .i64 0]) 4 32 Tryz.underlying23 hi0 hz0 hz1 hz2 rfl (by decide) (.slice Ar S.length cr) S.length (flatFce S) rfl AV.out ⟨wc.heap.size, 0, none⟩ 1 1 [.int .i64 fa, .int .i64 fb, .int .i64 fc, .int .i64 fk] rfl rfl (World.news_of_block (cs := #[.int .i64 fa, .int .i64 fb, .int .i64 fc, .int .i64 fk]) (t := 62) (fr := (0, 0)) (heap_alloc_new wc _)) f4 f0' f1 f2 f5 (wc.heap.size + 1) (by simp) ?_; intro gg cp w8 hown8 hgrow8 hat8 hlt8)
                      have SN := hide (HX.out.tail.more (by simp) (t := ⟨fa, fb, fc, fk⟩) hown8 hgrow8)
                      clear hown8 hgrow8 AV f1 f2 f4 f5
                      go_roundw
                      case rel => exact ⟨j + 1, _, _, by omega, by go_num, by rw [SNY.out]; exact SN, RN⟩
                      case measure => simp [intOf]; omega
              -- IN end
        · obtain rfl : j = fs.length := by omega
          have BD := hide (RW.out.bd h1 h2)
          have PO := hide (sumL_zero RW.out (show smB ⟨ss, fs⟩ = true by simp [smB, h1, h2]))
          have hr := HX.out.own.r2
          have OB0 : Hid (Orf w wr bL f L (.slice none 0 0) (sumL L 0)) := hide HX.out.orf
          clear RW HX
          go_wp2
          clear hr
          go_loopw [13, 14] (fun v13 v14 wr => ∃ i : Nat, i ≤ 7 ∧ v14 = .int .i64 i ∧ Hid (Orf w wr bL f L v13 (sumL L i))) (fun _ v14 _ => 7 - (intOf v14).toNat)
          case atStart => exact ⟨0, by omega, rfl, OB0⟩
          case round =>
            obtain ⟨i, hi, rfl, OB⟩ := hrel
            clear OB0
            by_cases hi7 : i < 7
            · obtain ⟨Ai, ci, hfi⟩ := (OB.out.six.row i hi7).slice
              obtain ⟨xs, hx, hx1⟩ := OB.out.six.row i hi7
              obtain ⟨ys, hy, hy1⟩ := OB.out.row
              have bs := sumL_le BD.out i hi
              have bi := BD.out i hi7
              have cfi : (cF f)[i]? = some (.slice Ai (L i).length ci) := (cF_at f hi7).trans (by rw [hfi])
              rw [hfi] at hx
              have RD := hide (Reads.of_own hx)
              have HY := hide hy
              have HX1 := hide hx1
              have HY1 := hide hy1
              have ES : Hid (sumL L (i + 1) = sumL L i + (L i).length) := hide rfl
              have f1 : sumL L i + (L i).length ≤ maxLen := by unfold maxLen; omega
              have f2 : (sumL L i + (L i).length) * 24 ≤ 140737488355328 := by omega
              have f5 : w.heap.size ≤ wr.heap.size := OB.out.own.1.size
              have GR := hide (fun (v' : Value) (w8 : World) (h1 : w8.ownsRow w.heap.size 121 2 v' (sumL L i + (L i).length) (ys ++ xs)) (h2 : wr.grownBy w8 u13.ownBlock) (h3 : v'.ownBlock = u13.ownBlock ∨ v'.ownBlock = some wr.heap.size) => OB.out.grow ⟨_, h1, one_app HY1.out HX1.out⟩ h2 h3)
              rw [← ES.out] at GR
              have d7 : decide ((i : Int) < 7) = true := decide_eq_true (by omega)
              have i0 : (0 : Int) ≤ (i : Int) := by omega
              have i1 : (i : Int) < 7 := by omega
              have hr := OB.out.own.r1
              clear hx hy hx1 hy1 hfi bs bi
              go_wp2_with (at_builtin; refine wpList_append_any _ rfl _ _ 79 rfl w.heap.size 121 k0 (.agg #[.int .i64 0, .string ⟨#[]⟩]) 2 24 Tryz.underlying79 hk0 hy0 hy1 hy2 rfl (by decide) u13 (sumL L i) ys rfl HY.out wr.heap.size Ai (L i).length ci xs rfl RD.out HX1.out f1 f2 f5 ?_; intro v8 w8 hown8 hgrow8 hv8)
              have SN := hide (GR.out _ _ hown8 hgrow8 hv8)
              clear hown8 hgrow8 hv8 GR RD HY
              go_roundw
              case rel => exact ⟨i + 1, by omega, by go_num, SN⟩
              case measure => simp [intOf]; omega
            · obtain rfl : i = 7 := by omega
              obtain ⟨A, c, rfl⟩ := OB.out.row.slice
              go_wp2
              go_ret
              exact ⟨⟨A, _, c, rfl, PO.out⟩, OB.out.own.1⟩
      -- TWO end
end Go.Proofs.YtbmocghfpcfmhaaGreatDoor
