/- The reference's corners: whether the corners and the class of a face are right; nothing that was there is turned (printed by gen_mrc.py). -/
import Derived.Test.YtbmocghfpcfmhaaGreatDoorPkCostsTrenches3
namespace Go.Proofs.YtbmocghfpcfmhaaGreatDoor
open Go Go.RowKit

def corB (l : List Spt) (f : Fce) (i : Nat) : Bool := cnB l (cor f i) && !decide (cor f i = cor f (i + 1))
theorem crB_cor (l : List Spt) (f : Fce) : crB l f = (corB l f 0 && corB l f 1 && corB l f 2 && (decide (0 ≤ f.k) && decide (f.k < 16))) := by
  unfold crB corB
  simp only [cor]
  cases cnB l f.a <;> cases cnB l f.b <;> cases cnB l f.c <;> cases decide (f.a = f.b) <;> cases decide (f.b = f.c) <;> cases decide (f.c = f.a) <;> rfl
theorem cor_no {l : List Spt} {f : Fce} {i : Nat} (hi : i < 3) (h : corB l f i = false) : crB l f = false := by
  rw [crB_cor]
  obtain rfl | rfl | rfl : i = 0 ∨ i = 1 ∨ i = 2 := by omega
  all_goals rw [h]; simp
theorem cor_yes {l : List Spt} {f : Fce} (h : ∀ i, i < 3 → corB l f i = true) : crB l f = (decide (0 ≤ f.k) && decide (f.k < 16)) := by
  rw [crB_cor, h 0 (by omega), h 1 (by omega), h 2 (by omega)]
  simp
set_option maxRecDepth 100000 in
set_option maxHeartbeats 4000000 in
theorem mrcorn_any (m : Msh) (a : MshA) (fa fb fc fk : Int) (w : World) (hm : MshSl w m a) : Calls Tryz.prog 76 #[m.val a, .agg #[.int .i64 fa, .int .i64 fb, .int .i64 fc, .int .i64 fk]] w (RetW (.bool (crB m.ss ⟨fa, fb, fc, fk⟩)) w) := by
  have HM := hide hm
  have hlen : m.ss.length ≤ 9223372036854775807 := hm.1.1.1
  obtain ⟨ss, fs⟩ := m
  obtain ⟨A1, c1, A2, c2⟩ := a
  have NO := hide (fun (i : Nat) (hi : i < 3) h => cor_no (l := ss) (f := ⟨fa, fb, fc, fk⟩) hi h)
  have YES := hide (fun h => cor_yes (l := ss) (f := ⟨fa, fb, fc, fk⟩) h)
  have hl : ss.length ≤ 9223372036854775807 := hlen
  show Calls _ _ #[.agg #[.slice A1 ss.length c1, .slice A2 fs.length c2], _] w (RetW (.bool (crB ss ⟨fa, fb, fc, fk⟩)) w)
  generalize crB ss ⟨fa, fb, fc, fk⟩ = ans at *
  have SP := hide (fun x y z W => mrspot_any x y z W)
  unfold RetW at SP
  have X := ((Own.start w).alloc #[.slice A1 ss.length c1, .slice A2 fs.length c2] 25).alloc #[.int .i64 fa, .int .i64 fb, .int .i64 fc, .int .i64 fk] 62
  rw [World.size_alloc] at X
  have hr := X.r2
  have X3 := X.alloc #[.int .i64 fa, .int .i64 fb, .int .i64 fc] 3
  simp only [World.size_alloc] at X3
  have HX := hide X3
  clear hm hlen X X3
  go_enter Tryz.func76, Tryz.ntmps76
  go_wp2
  generalize hbl : w.heap.size + 1 + 1 = bl at *
  clear hbl hr
  go_loopw [6] (fun v6 wr => ∃ i : Nat, i ≤ 3 ∧ v6 = .int .i64 i ∧ Hid (Own w wr [(bl, 3, #[.int .i64 fa, .int .i64 fb, .int .i64 fc]), (w.heap.size + 1, 62, #[.int .i64 fa, .int .i64 fb, .int .i64 fc, .int .i64 fk]), (w.heap.size, 25, #[.slice A1 ss.length c1, .slice A2 fs.length c2])]) ∧ Hid (∀ j, j < i → corB ss ⟨fa, fb, fc, fk⟩ j = true)) (fun v6 _ => 3 - (intOf v6).toNat)
  case atStart => exact ⟨0, by omega, rfl, HX, hide (fun j hj => by omega)⟩
  case round =>
    obtain ⟨i, hi, rfl, HO, HN⟩ := hrel
    clear HX
    by_cases h3 : i = 3
    · subst h3
      have E := hide (YES.out HN.out)
      have hr := HO.out.r3
      by_cases k0 : 0 ≤ fk
      · have q0 : decide (0 ≤ fk) = true := decide_eq_true k0
        by_cases k1 : fk < 16
        · have q1 : decide (fk < 16) = true := decide_eq_true k1
          go_wp2
          go_ret
          exact ⟨ret_bool (by rw [E.out]; show _ = (decide (0 ≤ fk) && decide (fk < 16)); simp [k0, k1]), HO.out.1⟩
        · have q1 : decide (fk < 16) = false := decide_eq_false k1
          go_wp2
          go_ret
          exact ⟨ret_bool (by rw [E.out]; show _ = (decide (0 ≤ fk) && decide (fk < 16)); simp [k0, k1]), HO.out.1⟩
      · have q0 : decide (0 ≤ fk) = false := decide_eq_false k0
        go_wp2
        go_ret
        exact ⟨ret_bool (by rw [E.out]; show _ = (decide (0 ≤ fk) && decide (fk < 16)); rw [q0]; rfl), HO.out.1⟩
    obtain rfl | rfl | rfl : i = 0 ∨ i = 1 ∨ i = 2 := by omega
    · clear hi h3
      have STEP := hide (fun (h : corB ss ⟨fa, fb, fc, fk⟩ 0 = true) j (hj : j < 0 + 1) => (show corB ss ⟨fa, fb, fc, fk⟩ j = true by
        by_cases e : j = 0
        · subst e; exact h
        · exact HN.out j (by omega)))
      have FAIL := hide (NO.out 0 (by omega))
      have EQ : Hid (corB ss ⟨fa, fb, fc, fk⟩ 0 = (decide (0 ≤ fa) && decide (fa < ss.length) && okS (spA ss fa) && !decide (fa = fb))) := hide rfl
      have s1 : IntKind.i64.wrap 1 = 1 := by decide
      have s2 : (1 : Int).tmod 3 = 1 := by decide
      have hr := HO.out.r3
      clear HN
      by_cases x0 : fa < 0
      · have q1 : decide (fa < 0) = true := decide_eq_true x0
        have E := hide (FAIL.out (by rw [EQ.out, decide_eq_false (show ¬ 0 ≤ fa by omega)]; rfl))
        clear STEP FAIL EQ x0
        go_wp2_with fail
        have NE : Nonempty (OwnW w [(bl, 3, #[.int .i64 fa, .int .i64 fb, .int .i64 fc]), (w.heap.size + 1, 62, #[.int .i64 fa, .int .i64 fb, .int .i64 fc, .int .i64 fk]), (w.heap.size, 25, #[.slice A1 ss.length c1, .slice A2 fs.length c2])]) := ⟨⟨_, HO.out⟩⟩
        have C1 := fun x : OwnW w [(bl, 3, #[.int .i64 fa, .int .i64 fb, .int .i64 fc]), (w.heap.size + 1, 62, #[.int .i64 fa, .int .i64 fb, .int .i64 fc, .int .i64 fk]), (w.heap.size, 25, #[.slice A1 ss.length c1, .slice A2 fs.length c2])] => x.own.r3
        refine wp_region_own (w := w) (L := [(bl, 3, #[.int .i64 fa, .int .i64 fb, .int .i64 fc]), (w.heap.size + 1, 62, #[.int .i64 fa, .int .i64 fb, .int .i64 fc, .int .i64 fk]), (w.heap.size, 25, #[.slice A1 ss.length c1, .slice A2 fs.length c2])]) (by kernel_rfl) (by kernel_rfl) HO.out ?_
        repeat (go_big_quiet_step (fail))
        refine wpQuiet_nil ?_
        rintro _ ⟨⟨W, HX⟩, rfl⟩
        go_wp2
        go_ret
        exact ⟨ret_bool E.out.symm, HX.1⟩
      have q1 : decide (fa < 0) = false := decide_eq_false x0
      by_cases x1 : fa < ss.length
      rotate_left
      · have q2 : decide ((ss.length : Int) ≤ fa) = true := decide_eq_true (by omega)
        have E := hide (FAIL.out (by rw [EQ.out, decide_eq_false x1]; simp))
        clear STEP FAIL EQ x1 x0
        go_wp2_with fail
        have NE : Nonempty (OwnW w [(bl, 3, #[.int .i64 fa, .int .i64 fb, .int .i64 fc]), (w.heap.size + 1, 62, #[.int .i64 fa, .int .i64 fb, .int .i64 fc, .int .i64 fk]), (w.heap.size, 25, #[.slice A1 ss.length c1, .slice A2 fs.length c2])]) := ⟨⟨_, HO.out⟩⟩
        have C1 := fun x : OwnW w [(bl, 3, #[.int .i64 fa, .int .i64 fb, .int .i64 fc]), (w.heap.size + 1, 62, #[.int .i64 fa, .int .i64 fb, .int .i64 fc, .int .i64 fk]), (w.heap.size, 25, #[.slice A1 ss.length c1, .slice A2 fs.length c2])] => x.own.r3
        refine wp_region_own (w := w) (L := [(bl, 3, #[.int .i64 fa, .int .i64 fb, .int .i64 fc]), (w.heap.size + 1, 62, #[.int .i64 fa, .int .i64 fb, .int .i64 fc, .int .i64 fk]), (w.heap.size, 25, #[.slice A1 ss.length c1, .slice A2 fs.length c2])]) (by kernel_rfl) (by kernel_rfl) HO.out ?_
        repeat (go_big_quiet_step (fail))
        refine wpQuiet_nil ?_
        rintro _ ⟨⟨W, HX⟩, rfl⟩
        go_wp2
        go_ret
        exact ⟨ret_bool E.out.symm, HX.1⟩
      have q2 : decide ((ss.length : Int) ≤ fa) = false := decide_eq_false (by omega)
      by_cases x2 : fa = fb
      · have q3 : (fa == fb) = true := by simpa using x2
        have E := hide (FAIL.out (by rw [EQ.out, decide_eq_true x2]; simp))
        clear STEP FAIL EQ x1 x0
        have x2' := hide x2
        clear x2
        go_wp2_with fail
        have NE : Nonempty (OwnW w [(bl, 3, #[.int .i64 fa, .int .i64 fb, .int .i64 fc]), (w.heap.size + 1, 62, #[.int .i64 fa, .int .i64 fb, .int .i64 fc, .int .i64 fk]), (w.heap.size, 25, #[.slice A1 ss.length c1, .slice A2 fs.length c2])]) := ⟨⟨_, HO.out⟩⟩
        have C1 := fun x : OwnW w [(bl, 3, #[.int .i64 fa, .int .i64 fb, .int .i64 fc]), (w.heap.size + 1, 62, #[.int .i64 fa, .int .i64 fb, .int .i64 fc, .int .i64 fk]), (w.heap.size, 25, #[.slice A1 ss.length c1, .slice A2 fs.length c2])] => x.own.r3
        refine wp_region_own (w := w) (L := [(bl, 3, #[.int .i64 fa, .int .i64 fb, .int .i64 fc]), (w.heap.size + 1, 62, #[.int .i64 fa, .int .i64 fb, .int .i64 fc, .int .i64 fk]), (w.heap.size, 25, #[.slice A1 ss.length c1, .slice A2 fs.length c2])]) (by kernel_rfl) (by kernel_rfl) HO.out ?_
        repeat (go_big_quiet_step (fail))
        refine wpQuiet_nil ?_
        rintro _ ⟨⟨W, HX⟩, rfl⟩
        go_wp2
        go_ret
        exact ⟨ret_bool E.out.symm, HX.1⟩
      have q3 : (fa == fb) = false := by simpa using x2
      obtain ⟨k, hk⟩ : ∃ k : Nat, fa = (k : Int) := ⟨fa.toNat, by omega⟩
      subst hk
      have hkl : k < ss.length := by omega
      obtain ⟨b, off, e, hbl, hat⟩ := HM.out.1.2 (by show 0 < ss.length; omega)
      obtain rfl : A1 = some ⟨b, off, none⟩ := e
      have hat' := hat k hkl
      have z0 : (0 : Int) ≤ (k : Int) := by omega
      have z1 : (k : Int) < (ss.length : Int) := by omega
      have EQ2 : Hid (corB ss ⟨(k : Int), fb, fc, fk⟩ 0 = okS ss[k]) := hide (by rw [EQ.out, decide_eq_true z0, decide_eq_true z1, decide_eq_false x2]; simp [spA, hkl])
      clear EQ x0 x1 x2 hat
      have hat : SptAt w b (off + k * 3) ss[k] := hat'
      clear hat'
      have SPs : Hid (∀ W : World, Calls Tryz.prog 73 #[.agg #[.int .i64 ss[k].x, .int .i64 ss[k].y, .int .i64 ss[k].z]] W fun e w' => e = .returned (.bool (okS ss[k])) ∧ Below W.heap.size W w') := hide (fun W => SP.out ss[k].x ss[k].y ss[k].z W)
      generalize ss[k] = sp at *
      obtain ⟨d0, d1, d2⟩ := hat
      have q4 : decide (ss.length ≤ k) = false := decide_eq_false (by omega)
      cases hok : okS sp with
      | false =>
        have E := hide (FAIL.out (EQ2.out.trans hok))
        rw [hok] at SPs
        clear STEP FAIL EQ2 hok
        go_wp2_with fail
        have D := fun x : OwnW w [(bl, 3, #[.int .i64 (k : Int), .int .i64 fb, .int .i64 fc]), (w.heap.size + 1, 62, #[.int .i64 (k : Int), .int .i64 fb, .int .i64 fc, .int .i64 fk]), (w.heap.size, 25, #[.slice (some ⟨b, off, none⟩) ss.length c1, .slice A2 fs.length c2])] => x.own.1.cell (p := ⟨b, off + k * 3, none⟩) hbl |>.trans d0
        have D1 := fun x : OwnW w [(bl, 3, #[.int .i64 (k : Int), .int .i64 fb, .int .i64 fc]), (w.heap.size + 1, 62, #[.int .i64 (k : Int), .int .i64 fb, .int .i64 fc, .int .i64 fk]), (w.heap.size, 25, #[.slice (some ⟨b, off, none⟩) ss.length c1, .slice A2 fs.length c2])] => x.own.1.cell (p := ⟨b, off + k * 3 + 1, none⟩) hbl |>.trans d1
        have D2 := fun x : OwnW w [(bl, 3, #[.int .i64 (k : Int), .int .i64 fb, .int .i64 fc]), (w.heap.size + 1, 62, #[.int .i64 (k : Int), .int .i64 fb, .int .i64 fc, .int .i64 fk]), (w.heap.size, 25, #[.slice (some ⟨b, off, none⟩) ss.length c1, .slice A2 fs.length c2])] => x.own.1.cell (p := ⟨b, off + k * 3 + 2, none⟩) hbl |>.trans d2
        have NE : Nonempty (OwnW w [(bl, 3, #[.int .i64 (k : Int), .int .i64 fb, .int .i64 fc]), (w.heap.size + 1, 62, #[.int .i64 (k : Int), .int .i64 fb, .int .i64 fc, .int .i64 fk]), (w.heap.size, 25, #[.slice (some ⟨b, off, none⟩) ss.length c1, .slice A2 fs.length c2])]) := ⟨⟨_, HO.out⟩⟩
        have C1 := fun x : OwnW w [(bl, 3, #[.int .i64 (k : Int), .int .i64 fb, .int .i64 fc]), (w.heap.size + 1, 62, #[.int .i64 (k : Int), .int .i64 fb, .int .i64 fc, .int .i64 fk]), (w.heap.size, 25, #[.slice (some ⟨b, off, none⟩) ss.length c1, .slice A2 fs.length c2])] => x.own.r3
        refine wp_region_own (w := w) (L := [(bl, 3, #[.int .i64 (k : Int), .int .i64 fb, .int .i64 fc]), (w.heap.size + 1, 62, #[.int .i64 (k : Int), .int .i64 fb, .int .i64 fc, .int .i64 fk]), (w.heap.size, 25, #[.slice (some ⟨b, off, none⟩) ss.length c1, .slice A2 fs.length c2])]) (by kernel_rfl) (by kernel_rfl) HO.out ?_
        repeat (go_big_quiet_step ((rename_i x; with_reducible exact own_call (SPs.out _))))
        refine wpQuiet_nil ?_
        rintro _ ⟨⟨W, HX⟩, rfl⟩
        go_wp2
        go_ret
        exact ⟨ret_bool E.out.symm, HX.1⟩
      | true =>
        have E := hide (STEP.out (EQ2.out.trans hok))
        rw [hok] at SPs
        clear STEP FAIL EQ2 hok
        go_wp2_with fail
        have D := fun x : OwnW w [(bl, 3, #[.int .i64 (k : Int), .int .i64 fb, .int .i64 fc]), (w.heap.size + 1, 62, #[.int .i64 (k : Int), .int .i64 fb, .int .i64 fc, .int .i64 fk]), (w.heap.size, 25, #[.slice (some ⟨b, off, none⟩) ss.length c1, .slice A2 fs.length c2])] => x.own.1.cell (p := ⟨b, off + k * 3, none⟩) hbl |>.trans d0
        have D1 := fun x : OwnW w [(bl, 3, #[.int .i64 (k : Int), .int .i64 fb, .int .i64 fc]), (w.heap.size + 1, 62, #[.int .i64 (k : Int), .int .i64 fb, .int .i64 fc, .int .i64 fk]), (w.heap.size, 25, #[.slice (some ⟨b, off, none⟩) ss.length c1, .slice A2 fs.length c2])] => x.own.1.cell (p := ⟨b, off + k * 3 + 1, none⟩) hbl |>.trans d1
        have D2 := fun x : OwnW w [(bl, 3, #[.int .i64 (k : Int), .int .i64 fb, .int .i64 fc]), (w.heap.size + 1, 62, #[.int .i64 (k : Int), .int .i64 fb, .int .i64 fc, .int .i64 fk]), (w.heap.size, 25, #[.slice (some ⟨b, off, none⟩) ss.length c1, .slice A2 fs.length c2])] => x.own.1.cell (p := ⟨b, off + k * 3 + 2, none⟩) hbl |>.trans d2
        have NE : Nonempty (OwnW w [(bl, 3, #[.int .i64 (k : Int), .int .i64 fb, .int .i64 fc]), (w.heap.size + 1, 62, #[.int .i64 (k : Int), .int .i64 fb, .int .i64 fc, .int .i64 fk]), (w.heap.size, 25, #[.slice (some ⟨b, off, none⟩) ss.length c1, .slice A2 fs.length c2])]) := ⟨⟨_, HO.out⟩⟩
        have C1 := fun x : OwnW w [(bl, 3, #[.int .i64 (k : Int), .int .i64 fb, .int .i64 fc]), (w.heap.size + 1, 62, #[.int .i64 (k : Int), .int .i64 fb, .int .i64 fc, .int .i64 fk]), (w.heap.size, 25, #[.slice (some ⟨b, off, none⟩) ss.length c1, .slice A2 fs.length c2])] => x.own.r3
        refine wp_region_own (w := w) (L := [(bl, 3, #[.int .i64 (k : Int), .int .i64 fb, .int .i64 fc]), (w.heap.size + 1, 62, #[.int .i64 (k : Int), .int .i64 fb, .int .i64 fc, .int .i64 fk]), (w.heap.size, 25, #[.slice (some ⟨b, off, none⟩) ss.length c1, .slice A2 fs.length c2])]) (by kernel_rfl) (by kernel_rfl) HO.out ?_
        repeat (go_big_quiet_step ((rename_i x; with_reducible exact own_call (SPs.out _))))
        refine wpQuiet_nil ?_
        rintro _ ⟨⟨W, HX⟩, rfl⟩
        clear C1 D D1 D2 NE
        go_wp2
        go_roundw
        case rel => exact ⟨0 + 1, by omega, rfl, hide HX, E⟩
        case measure => simp [intOf]
    · clear hi h3
      have STEP := hide (fun (h : corB ss ⟨fa, fb, fc, fk⟩ 1 = true) j (hj : j < 1 + 1) => (show corB ss ⟨fa, fb, fc, fk⟩ j = true by
        by_cases e : j = 1
        · subst e; exact h
        · exact HN.out j (by omega)))
      have FAIL := hide (NO.out 1 (by omega))
      have EQ : Hid (corB ss ⟨fa, fb, fc, fk⟩ 1 = (decide (0 ≤ fb) && decide (fb < ss.length) && okS (spA ss fb) && !decide (fb = fc))) := hide rfl
      have s1 : IntKind.i64.wrap 2 = 2 := by decide
      have s2 : (2 : Int).tmod 3 = 2 := by decide
      have hr := HO.out.r3
      clear HN
      by_cases x0 : fb < 0
      · have q1 : decide (fb < 0) = true := decide_eq_true x0
        have E := hide (FAIL.out (by rw [EQ.out, decide_eq_false (show ¬ 0 ≤ fb by omega)]; rfl))
        clear STEP FAIL EQ x0
        go_wp2_with fail
        have NE : Nonempty (OwnW w [(bl, 3, #[.int .i64 fa, .int .i64 fb, .int .i64 fc]), (w.heap.size + 1, 62, #[.int .i64 fa, .int .i64 fb, .int .i64 fc, .int .i64 fk]), (w.heap.size, 25, #[.slice A1 ss.length c1, .slice A2 fs.length c2])]) := ⟨⟨_, HO.out⟩⟩
        have C1 := fun x : OwnW w [(bl, 3, #[.int .i64 fa, .int .i64 fb, .int .i64 fc]), (w.heap.size + 1, 62, #[.int .i64 fa, .int .i64 fb, .int .i64 fc, .int .i64 fk]), (w.heap.size, 25, #[.slice A1 ss.length c1, .slice A2 fs.length c2])] => x.own.r3
        refine wp_region_own (w := w) (L := [(bl, 3, #[.int .i64 fa, .int .i64 fb, .int .i64 fc]), (w.heap.size + 1, 62, #[.int .i64 fa, .int .i64 fb, .int .i64 fc, .int .i64 fk]), (w.heap.size, 25, #[.slice A1 ss.length c1, .slice A2 fs.length c2])]) (by kernel_rfl) (by kernel_rfl) HO.out ?_
        repeat (go_big_quiet_step (fail))
        refine wpQuiet_nil ?_
        rintro _ ⟨⟨W, HX⟩, rfl⟩
        go_wp2
        go_ret
        exact ⟨ret_bool E.out.symm, HX.1⟩
      have q1 : decide (fb < 0) = false := decide_eq_false x0
      by_cases x1 : fb < ss.length
      rotate_left
      · have q2 : decide ((ss.length : Int) ≤ fb) = true := decide_eq_true (by omega)
        have E := hide (FAIL.out (by rw [EQ.out, decide_eq_false x1]; simp))
        clear STEP FAIL EQ x1 x0
        go_wp2_with fail
        have NE : Nonempty (OwnW w [(bl, 3, #[.int .i64 fa, .int .i64 fb, .int .i64 fc]), (w.heap.size + 1, 62, #[.int .i64 fa, .int .i64 fb, .int .i64 fc, .int .i64 fk]), (w.heap.size, 25, #[.slice A1 ss.length c1, .slice A2 fs.length c2])]) := ⟨⟨_, HO.out⟩⟩
        have C1 := fun x : OwnW w [(bl, 3, #[.int .i64 fa, .int .i64 fb, .int .i64 fc]), (w.heap.size + 1, 62, #[.int .i64 fa, .int .i64 fb, .int .i64 fc, .int .i64 fk]), (w.heap.size, 25, #[.slice A1 ss.length c1, .slice A2 fs.length c2])] => x.own.r3
        refine wp_region_own (w := w) (L := [(bl, 3, #[.int .i64 fa, .int .i64 fb, .int .i64 fc]), (w.heap.size + 1, 62, #[.int .i64 fa, .int .i64 fb, .int .i64 fc, .int .i64 fk]), (w.heap.size, 25, #[.slice A1 ss.length c1, .slice A2 fs.length c2])]) (by kernel_rfl) (by kernel_rfl) HO.out ?_
        repeat (go_big_quiet_step (fail))
        refine wpQuiet_nil ?_
        rintro _ ⟨⟨W, HX⟩, rfl⟩
        go_wp2
        go_ret
        exact ⟨ret_bool E.out.symm, HX.1⟩
      have q2 : decide ((ss.length : Int) ≤ fb) = false := decide_eq_false (by omega)
      by_cases x2 : fb = fc
      · have q3 : (fb == fc) = true := by simpa using x2
        have E := hide (FAIL.out (by rw [EQ.out, decide_eq_true x2]; simp))
        clear STEP FAIL EQ x1 x0
        have x2' := hide x2
        clear x2
        go_wp2_with fail
        have NE : Nonempty (OwnW w [(bl, 3, #[.int .i64 fa, .int .i64 fb, .int .i64 fc]), (w.heap.size + 1, 62, #[.int .i64 fa, .int .i64 fb, .int .i64 fc, .int .i64 fk]), (w.heap.size, 25, #[.slice A1 ss.length c1, .slice A2 fs.length c2])]) := ⟨⟨_, HO.out⟩⟩
        have C1 := fun x : OwnW w [(bl, 3, #[.int .i64 fa, .int .i64 fb, .int .i64 fc]), (w.heap.size + 1, 62, #[.int .i64 fa, .int .i64 fb, .int .i64 fc, .int .i64 fk]), (w.heap.size, 25, #[.slice A1 ss.length c1, .slice A2 fs.length c2])] => x.own.r3
        refine wp_region_own (w := w) (L := [(bl, 3, #[.int .i64 fa, .int .i64 fb, .int .i64 fc]), (w.heap.size + 1, 62, #[.int .i64 fa, .int .i64 fb, .int .i64 fc, .int .i64 fk]), (w.heap.size, 25, #[.slice A1 ss.length c1, .slice A2 fs.length c2])]) (by kernel_rfl) (by kernel_rfl) HO.out ?_
        repeat (go_big_quiet_step (fail))
        refine wpQuiet_nil ?_
        rintro _ ⟨⟨W, HX⟩, rfl⟩
        go_wp2
        go_ret
        exact ⟨ret_bool E.out.symm, HX.1⟩
      have q3 : (fb == fc) = false := by simpa using x2
      obtain ⟨k, hk⟩ : ∃ k : Nat, fb = (k : Int) := ⟨fb.toNat, by omega⟩
      subst hk
      have hkl : k < ss.length := by omega
      obtain ⟨b, off, e, hbl, hat⟩ := HM.out.1.2 (by show 0 < ss.length; omega)
      obtain rfl : A1 = some ⟨b, off, none⟩ := e
      have hat' := hat k hkl
      have z0 : (0 : Int) ≤ (k : Int) := by omega
      have z1 : (k : Int) < (ss.length : Int) := by omega
      have EQ2 : Hid (corB ss ⟨fa, (k : Int), fc, fk⟩ 1 = okS ss[k]) := hide (by rw [EQ.out, decide_eq_true z0, decide_eq_true z1, decide_eq_false x2]; simp [spA, hkl])
      clear EQ x0 x1 x2 hat
      have hat : SptAt w b (off + k * 3) ss[k] := hat'
      clear hat'
      have SPs : Hid (∀ W : World, Calls Tryz.prog 73 #[.agg #[.int .i64 ss[k].x, .int .i64 ss[k].y, .int .i64 ss[k].z]] W fun e w' => e = .returned (.bool (okS ss[k])) ∧ Below W.heap.size W w') := hide (fun W => SP.out ss[k].x ss[k].y ss[k].z W)
      generalize ss[k] = sp at *
      obtain ⟨d0, d1, d2⟩ := hat
      have q4 : decide (ss.length ≤ k) = false := decide_eq_false (by omega)
      cases hok : okS sp with
      | false =>
        have E := hide (FAIL.out (EQ2.out.trans hok))
        rw [hok] at SPs
        clear STEP FAIL EQ2 hok
        go_wp2_with fail
        have D := fun x : OwnW w [(bl, 3, #[.int .i64 fa, .int .i64 (k : Int), .int .i64 fc]), (w.heap.size + 1, 62, #[.int .i64 fa, .int .i64 (k : Int), .int .i64 fc, .int .i64 fk]), (w.heap.size, 25, #[.slice (some ⟨b, off, none⟩) ss.length c1, .slice A2 fs.length c2])] => x.own.1.cell (p := ⟨b, off + k * 3, none⟩) hbl |>.trans d0
        have D1 := fun x : OwnW w [(bl, 3, #[.int .i64 fa, .int .i64 (k : Int), .int .i64 fc]), (w.heap.size + 1, 62, #[.int .i64 fa, .int .i64 (k : Int), .int .i64 fc, .int .i64 fk]), (w.heap.size, 25, #[.slice (some ⟨b, off, none⟩) ss.length c1, .slice A2 fs.length c2])] => x.own.1.cell (p := ⟨b, off + k * 3 + 1, none⟩) hbl |>.trans d1
        have D2 := fun x : OwnW w [(bl, 3, #[.int .i64 fa, .int .i64 (k : Int), .int .i64 fc]), (w.heap.size + 1, 62, #[.int .i64 fa, .int .i64 (k : Int), .int .i64 fc, .int .i64 fk]), (w.heap.size, 25, #[.slice (some ⟨b, off, none⟩) ss.length c1, .slice A2 fs.length c2])] => x.own.1.cell (p := ⟨b, off + k * 3 + 2, none⟩) hbl |>.trans d2
        have NE : Nonempty (OwnW w [(bl, 3, #[.int .i64 fa, .int .i64 (k : Int), .int .i64 fc]), (w.heap.size + 1, 62, #[.int .i64 fa, .int .i64 (k : Int), .int .i64 fc, .int .i64 fk]), (w.heap.size, 25, #[.slice (some ⟨b, off, none⟩) ss.length c1, .slice A2 fs.length c2])]) := ⟨⟨_, HO.out⟩⟩
        have C1 := fun x : OwnW w [(bl, 3, #[.int .i64 fa, .int .i64 (k : Int), .int .i64 fc]), (w.heap.size + 1, 62, #[.int .i64 fa, .int .i64 (k : Int), .int .i64 fc, .int .i64 fk]), (w.heap.size, 25, #[.slice (some ⟨b, off, none⟩) ss.length c1, .slice A2 fs.length c2])] => x.own.r3
        refine wp_region_own (w := w) (L := [(bl, 3, #[.int .i64 fa, .int .i64 (k : Int), .int .i64 fc]), (w.heap.size + 1, 62, #[.int .i64 fa, .int .i64 (k : Int), .int .i64 fc, .int .i64 fk]), (w.heap.size, 25, #[.slice (some ⟨b, off, none⟩) ss.length c1, .slice A2 fs.length c2])]) (by kernel_rfl) (by kernel_rfl) HO.out ?_
        repeat (go_big_quiet_step ((rename_i x; with_reducible exact own_call (SPs.out _))))
        refine wpQuiet_nil ?_
        rintro _ ⟨⟨W, HX⟩, rfl⟩
        go_wp2
        go_ret
        exact ⟨ret_bool E.out.symm, HX.1⟩
      | true =>
        have E := hide (STEP.out (EQ2.out.trans hok))
        rw [hok] at SPs
        clear STEP FAIL EQ2 hok
        go_wp2_with fail
        have D := fun x : OwnW w [(bl, 3, #[.int .i64 fa, .int .i64 (k : Int), .int .i64 fc]), (w.heap.size + 1, 62, #[.int .i64 fa, .int .i64 (k : Int), .int .i64 fc, .int .i64 fk]), (w.heap.size, 25, #[.slice (some ⟨b, off, none⟩) ss.length c1, .slice A2 fs.length c2])] => x.own.1.cell (p := ⟨b, off + k * 3, none⟩) hbl |>.trans d0
        have D1 := fun x : OwnW w [(bl, 3, #[.int .i64 fa, .int .i64 (k : Int), .int .i64 fc]), (w.heap.size + 1, 62, #[.int .i64 fa, .int .i64 (k : Int), .int .i64 fc, .int .i64 fk]), (w.heap.size, 25, #[.slice (some ⟨b, off, none⟩) ss.length c1, .slice A2 fs.length c2])] => x.own.1.cell (p := ⟨b, off + k * 3 + 1, none⟩) hbl |>.trans d1
        have D2 := fun x : OwnW w [(bl, 3, #[.int .i64 fa, .int .i64 (k : Int), .int .i64 fc]), (w.heap.size + 1, 62, #[.int .i64 fa, .int .i64 (k : Int), .int .i64 fc, .int .i64 fk]), (w.heap.size, 25, #[.slice (some ⟨b, off, none⟩) ss.length c1, .slice A2 fs.length c2])] => x.own.1.cell (p := ⟨b, off + k * 3 + 2, none⟩) hbl |>.trans d2
        have NE : Nonempty (OwnW w [(bl, 3, #[.int .i64 fa, .int .i64 (k : Int), .int .i64 fc]), (w.heap.size + 1, 62, #[.int .i64 fa, .int .i64 (k : Int), .int .i64 fc, .int .i64 fk]), (w.heap.size, 25, #[.slice (some ⟨b, off, none⟩) ss.length c1, .slice A2 fs.length c2])]) := ⟨⟨_, HO.out⟩⟩
        have C1 := fun x : OwnW w [(bl, 3, #[.int .i64 fa, .int .i64 (k : Int), .int .i64 fc]), (w.heap.size + 1, 62, #[.int .i64 fa, .int .i64 (k : Int), .int .i64 fc, .int .i64 fk]), (w.heap.size, 25, #[.slice (some ⟨b, off, none⟩) ss.length c1, .slice A2 fs.length c2])] => x.own.r3
        refine wp_region_own (w := w) (L := [(bl, 3, #[.int .i64 fa, .int .i64 (k : Int), .int .i64 fc]), (w.heap.size + 1, 62, #[.int .i64 fa, .int .i64 (k : Int), .int .i64 fc, .int .i64 fk]), (w.heap.size, 25, #[.slice (some ⟨b, off, none⟩) ss.length c1, .slice A2 fs.length c2])]) (by kernel_rfl) (by kernel_rfl) HO.out ?_
        repeat (go_big_quiet_step ((rename_i x; with_reducible exact own_call (SPs.out _))))
        refine wpQuiet_nil ?_
        rintro _ ⟨⟨W, HX⟩, rfl⟩
        clear C1 D D1 D2 NE
        go_wp2
        go_roundw
        case rel => exact ⟨1 + 1, by omega, rfl, hide HX, E⟩
        case measure => simp [intOf]
    · clear hi h3
      have STEP := hide (fun (h : corB ss ⟨fa, fb, fc, fk⟩ 2 = true) j (hj : j < 2 + 1) => (show corB ss ⟨fa, fb, fc, fk⟩ j = true by
        by_cases e : j = 2
        · subst e; exact h
        · exact HN.out j (by omega)))
      have FAIL := hide (NO.out 2 (by omega))
      have EQ : Hid (corB ss ⟨fa, fb, fc, fk⟩ 2 = (decide (0 ≤ fc) && decide (fc < ss.length) && okS (spA ss fc) && !decide (fc = fa))) := hide rfl
      have s1 : IntKind.i64.wrap 3 = 3 := by decide
      have s2 : (3 : Int).tmod 3 = 0 := by decide
      have hr := HO.out.r3
      clear HN
      by_cases x0 : fc < 0
      · have q1 : decide (fc < 0) = true := decide_eq_true x0
        have E := hide (FAIL.out (by rw [EQ.out, decide_eq_false (show ¬ 0 ≤ fc by omega)]; rfl))
        clear STEP FAIL EQ x0
        go_wp2_with fail
        have NE : Nonempty (OwnW w [(bl, 3, #[.int .i64 fa, .int .i64 fb, .int .i64 fc]), (w.heap.size + 1, 62, #[.int .i64 fa, .int .i64 fb, .int .i64 fc, .int .i64 fk]), (w.heap.size, 25, #[.slice A1 ss.length c1, .slice A2 fs.length c2])]) := ⟨⟨_, HO.out⟩⟩
        have C1 := fun x : OwnW w [(bl, 3, #[.int .i64 fa, .int .i64 fb, .int .i64 fc]), (w.heap.size + 1, 62, #[.int .i64 fa, .int .i64 fb, .int .i64 fc, .int .i64 fk]), (w.heap.size, 25, #[.slice A1 ss.length c1, .slice A2 fs.length c2])] => x.own.r3
        refine wp_region_own (w := w) (L := [(bl, 3, #[.int .i64 fa, .int .i64 fb, .int .i64 fc]), (w.heap.size + 1, 62, #[.int .i64 fa, .int .i64 fb, .int .i64 fc, .int .i64 fk]), (w.heap.size, 25, #[.slice A1 ss.length c1, .slice A2 fs.length c2])]) (by kernel_rfl) (by kernel_rfl) HO.out ?_
        repeat (go_big_quiet_step (fail))
        refine wpQuiet_nil ?_
        rintro _ ⟨⟨W, HX⟩, rfl⟩
        go_wp2
        go_ret
        exact ⟨ret_bool E.out.symm, HX.1⟩
      have q1 : decide (fc < 0) = false := decide_eq_false x0
      by_cases x1 : fc < ss.length
      rotate_left
      · have q2 : decide ((ss.length : Int) ≤ fc) = true := decide_eq_true (by omega)
        have E := hide (FAIL.out (by rw [EQ.out, decide_eq_false x1]; simp))
        clear STEP FAIL EQ x1 x0
        go_wp2_with fail
        have NE : Nonempty (OwnW w [(bl, 3, #[.int .i64 fa, .int .i64 fb, .int .i64 fc]), (w.heap.size + 1, 62, #[.int .i64 fa, .int .i64 fb, .int .i64 fc, .int .i64 fk]), (w.heap.size, 25, #[.slice A1 ss.length c1, .slice A2 fs.length c2])]) := ⟨⟨_, HO.out⟩⟩
        have C1 := fun x : OwnW w [(bl, 3, #[.int .i64 fa, .int .i64 fb, .int .i64 fc]), (w.heap.size + 1, 62, #[.int .i64 fa, .int .i64 fb, .int .i64 fc, .int .i64 fk]), (w.heap.size, 25, #[.slice A1 ss.length c1, .slice A2 fs.length c2])] => x.own.r3
        refine wp_region_own (w := w) (L := [(bl, 3, #[.int .i64 fa, .int .i64 fb, .int .i64 fc]), (w.heap.size + 1, 62, #[.int .i64 fa, .int .i64 fb, .int .i64 fc, .int .i64 fk]), (w.heap.size, 25, #[.slice A1 ss.length c1, .slice A2 fs.length c2])]) (by kernel_rfl) (by kernel_rfl) HO.out ?_
        repeat (go_big_quiet_step (fail))
        refine wpQuiet_nil ?_
        rintro _ ⟨⟨W, HX⟩, rfl⟩
        go_wp2
        go_ret
        exact ⟨ret_bool E.out.symm, HX.1⟩
      have q2 : decide ((ss.length : Int) ≤ fc) = false := decide_eq_false (by omega)
      by_cases x2 : fc = fa
      · have q3 : (fc == fa) = true := by simpa using x2
        have E := hide (FAIL.out (by rw [EQ.out, decide_eq_true x2]; simp))
        clear STEP FAIL EQ x1 x0
        have x2' := hide x2
        clear x2
        go_wp2_with fail
        have NE : Nonempty (OwnW w [(bl, 3, #[.int .i64 fa, .int .i64 fb, .int .i64 fc]), (w.heap.size + 1, 62, #[.int .i64 fa, .int .i64 fb, .int .i64 fc, .int .i64 fk]), (w.heap.size, 25, #[.slice A1 ss.length c1, .slice A2 fs.length c2])]) := ⟨⟨_, HO.out⟩⟩
        have C1 := fun x : OwnW w [(bl, 3, #[.int .i64 fa, .int .i64 fb, .int .i64 fc]), (w.heap.size + 1, 62, #[.int .i64 fa, .int .i64 fb, .int .i64 fc, .int .i64 fk]), (w.heap.size, 25, #[.slice A1 ss.length c1, .slice A2 fs.length c2])] => x.own.r3
        refine wp_region_own (w := w) (L := [(bl, 3, #[.int .i64 fa, .int .i64 fb, .int .i64 fc]), (w.heap.size + 1, 62, #[.int .i64 fa, .int .i64 fb, .int .i64 fc, .int .i64 fk]), (w.heap.size, 25, #[.slice A1 ss.length c1, .slice A2 fs.length c2])]) (by kernel_rfl) (by kernel_rfl) HO.out ?_
        repeat (go_big_quiet_step (fail))
        refine wpQuiet_nil ?_
        rintro _ ⟨⟨W, HX⟩, rfl⟩
        go_wp2
        go_ret
        exact ⟨ret_bool E.out.symm, HX.1⟩
      have q3 : (fc == fa) = false := by simpa using x2
      obtain ⟨k, hk⟩ : ∃ k : Nat, fc = (k : Int) := ⟨fc.toNat, by omega⟩
      subst hk
      have hkl : k < ss.length := by omega
      obtain ⟨b, off, e, hbl, hat⟩ := HM.out.1.2 (by show 0 < ss.length; omega)
      obtain rfl : A1 = some ⟨b, off, none⟩ := e
      have hat' := hat k hkl
      have z0 : (0 : Int) ≤ (k : Int) := by omega
      have z1 : (k : Int) < (ss.length : Int) := by omega
      have EQ2 : Hid (corB ss ⟨fa, fb, (k : Int), fk⟩ 2 = okS ss[k]) := hide (by rw [EQ.out, decide_eq_true z0, decide_eq_true z1, decide_eq_false x2]; simp [spA, hkl])
      clear EQ x0 x1 x2 hat
      have hat : SptAt w b (off + k * 3) ss[k] := hat'
      clear hat'
      have SPs : Hid (∀ W : World, Calls Tryz.prog 73 #[.agg #[.int .i64 ss[k].x, .int .i64 ss[k].y, .int .i64 ss[k].z]] W fun e w' => e = .returned (.bool (okS ss[k])) ∧ Below W.heap.size W w') := hide (fun W => SP.out ss[k].x ss[k].y ss[k].z W)
      generalize ss[k] = sp at *
      obtain ⟨d0, d1, d2⟩ := hat
      have q4 : decide (ss.length ≤ k) = false := decide_eq_false (by omega)
      cases hok : okS sp with
      | false =>
        have E := hide (FAIL.out (EQ2.out.trans hok))
        rw [hok] at SPs
        clear STEP FAIL EQ2 hok
        go_wp2_with fail
        have D := fun x : OwnW w [(bl, 3, #[.int .i64 fa, .int .i64 fb, .int .i64 (k : Int)]), (w.heap.size + 1, 62, #[.int .i64 fa, .int .i64 fb, .int .i64 (k : Int), .int .i64 fk]), (w.heap.size, 25, #[.slice (some ⟨b, off, none⟩) ss.length c1, .slice A2 fs.length c2])] => x.own.1.cell (p := ⟨b, off + k * 3, none⟩) hbl |>.trans d0
        have D1 := fun x : OwnW w [(bl, 3, #[.int .i64 fa, .int .i64 fb, .int .i64 (k : Int)]), (w.heap.size + 1, 62, #[.int .i64 fa, .int .i64 fb, .int .i64 (k : Int), .int .i64 fk]), (w.heap.size, 25, #[.slice (some ⟨b, off, none⟩) ss.length c1, .slice A2 fs.length c2])] => x.own.1.cell (p := ⟨b, off + k * 3 + 1, none⟩) hbl |>.trans d1
        have D2 := fun x : OwnW w [(bl, 3, #[.int .i64 fa, .int .i64 fb, .int .i64 (k : Int)]), (w.heap.size + 1, 62, #[.int .i64 fa, .int .i64 fb, .int .i64 (k : Int), .int .i64 fk]), (w.heap.size, 25, #[.slice (some ⟨b, off, none⟩) ss.length c1, .slice A2 fs.length c2])] => x.own.1.cell (p := ⟨b, off + k * 3 + 2, none⟩) hbl |>.trans d2
        have NE : Nonempty (OwnW w [(bl, 3, #[.int .i64 fa, .int .i64 fb, .int .i64 (k : Int)]), (w.heap.size + 1, 62, #[.int .i64 fa, .int .i64 fb, .int .i64 (k : Int), .int .i64 fk]), (w.heap.size, 25, #[.slice (some ⟨b, off, none⟩) ss.length c1, .slice A2 fs.length c2])]) := ⟨⟨_, HO.out⟩⟩
        have C1 := fun x : OwnW w [(bl, 3, #[.int .i64 fa, .int .i64 fb, .int .i64 (k : Int)]), (w.heap.size + 1, 62, #[.int .i64 fa, .int .i64 fb, .int .i64 (k : Int), .int .i64 fk]), (w.heap.size, 25, #[.slice (some ⟨b, off, none⟩) ss.length c1, .slice A2 fs.length c2])] => x.own.r3
        refine wp_region_own (w := w) (L := [(bl, 3, #[.int .i64 fa, .int .i64 fb, .int .i64 (k : Int)]), (w.heap.size + 1, 62, #[.int .i64 fa, .int .i64 fb, .int .i64 (k : Int), .int .i64 fk]), (w.heap.size, 25, #[.slice (some ⟨b, off, none⟩) ss.length c1, .slice A2 fs.length c2])]) (by kernel_rfl) (by kernel_rfl) HO.out ?_
        repeat (go_big_quiet_step ((rename_i x; with_reducible exact own_call (SPs.out _))))
        refine wpQuiet_nil ?_
        rintro _ ⟨⟨W, HX⟩, rfl⟩
        go_wp2
        go_ret
        exact ⟨ret_bool E.out.symm, HX.1⟩
      | true =>
        have E := hide (STEP.out (EQ2.out.trans hok))
        rw [hok] at SPs
        clear STEP FAIL EQ2 hok
        go_wp2_with fail
        have D := fun x : OwnW w [(bl, 3, #[.int .i64 fa, .int .i64 fb, .int .i64 (k : Int)]), (w.heap.size + 1, 62, #[.int .i64 fa, .int .i64 fb, .int .i64 (k : Int), .int .i64 fk]), (w.heap.size, 25, #[.slice (some ⟨b, off, none⟩) ss.length c1, .slice A2 fs.length c2])] => x.own.1.cell (p := ⟨b, off + k * 3, none⟩) hbl |>.trans d0
        have D1 := fun x : OwnW w [(bl, 3, #[.int .i64 fa, .int .i64 fb, .int .i64 (k : Int)]), (w.heap.size + 1, 62, #[.int .i64 fa, .int .i64 fb, .int .i64 (k : Int), .int .i64 fk]), (w.heap.size, 25, #[.slice (some ⟨b, off, none⟩) ss.length c1, .slice A2 fs.length c2])] => x.own.1.cell (p := ⟨b, off + k * 3 + 1, none⟩) hbl |>.trans d1
        have D2 := fun x : OwnW w [(bl, 3, #[.int .i64 fa, .int .i64 fb, .int .i64 (k : Int)]), (w.heap.size + 1, 62, #[.int .i64 fa, .int .i64 fb, .int .i64 (k : Int), .int .i64 fk]), (w.heap.size, 25, #[.slice (some ⟨b, off, none⟩) ss.length c1, .slice A2 fs.length c2])] => x.own.1.cell (p := ⟨b, off + k * 3 + 2, none⟩) hbl |>.trans d2
        have NE : Nonempty (OwnW w [(bl, 3, #[.int .i64 fa, .int .i64 fb, .int .i64 (k : Int)]), (w.heap.size + 1, 62, #[.int .i64 fa, .int .i64 fb, .int .i64 (k : Int), .int .i64 fk]), (w.heap.size, 25, #[.slice (some ⟨b, off, none⟩) ss.length c1, .slice A2 fs.length c2])]) := ⟨⟨_, HO.out⟩⟩
        have C1 := fun x : OwnW w [(bl, 3, #[.int .i64 fa, .int .i64 fb, .int .i64 (k : Int)]), (w.heap.size + 1, 62, #[.int .i64 fa, .int .i64 fb, .int .i64 (k : Int), .int .i64 fk]), (w.heap.size, 25, #[.slice (some ⟨b, off, none⟩) ss.length c1, .slice A2 fs.length c2])] => x.own.r3
        refine wp_region_own (w := w) (L := [(bl, 3, #[.int .i64 fa, .int .i64 fb, .int .i64 (k : Int)]), (w.heap.size + 1, 62, #[.int .i64 fa, .int .i64 fb, .int .i64 (k : Int), .int .i64 fk]), (w.heap.size, 25, #[.slice (some ⟨b, off, none⟩) ss.length c1, .slice A2 fs.length c2])]) (by kernel_rfl) (by kernel_rfl) HO.out ?_
        repeat (go_big_quiet_step ((rename_i x; with_reducible exact own_call (SPs.out _))))
        refine wpQuiet_nil ?_
        rintro _ ⟨⟨W, HX⟩, rfl⟩
        clear C1 D D1 D2 NE
        go_wp2
        go_roundw
        case rel => exact ⟨2 + 1, by omega, rfl, hide HX, E⟩
        case measure => simp [intOf]
end Go.Proofs.YtbmocghfpcfmhaaGreatDoor
