/- The reference's apart: what it returns; nothing that was there is turned (printed by gen_mrt.py). -/
import Derived.Test.YtbmocghfpcfmhaaGreatDoorPkCostsTrenches3
namespace Go.Proofs.YtbmocghfpcfmhaaGreatDoor
open Go Go.RowKit

set_option maxRecDepth 100000 in
set_option maxHeartbeats 2000000 in
theorem mrapart_any (t u : Tri) (bt bu : Nat) (w : World) (ht : t.in) (hu : u.in) (hT : TriB w bt t) (hU : TriB w bu u) : Calls Tryz.prog 127 #[.slice (some ⟨bt, 0, none⟩) 3 3, .slice (some ⟨bu, 0, none⟩) 3 3] w (RetW (.bool (sepB t u)) w) := by
  have TN := hide (fun W (a b c : Pnt) (ha : a.in) (hb : b.in) (hc : c.in) => mrturn_any a b c W ha hb hc)
  unfold RetW at TN
  have HT := hide ht
  have HU := hide hu
  have BT := hide hT
  have BU := hide hU
  have YES := hide (fun k hk h => sep_yes (t := t) (u := u) (k := k) hk h)
  have NO := hide (fun h => sep_no (t := t) (u := u) h)
  generalize sepB t u = ans at *
  clear ht hu hT hU
  go_enter Tryz.func127, Tryz.ntmps127
  go_wp2
  go_loopw [5] (fun v5 wr => ∃ k : Nat, k ≤ 3 ∧ v5 = .int .i64 k ∧ Hid (Own w wr []) ∧ Hid (∀ j, j < k → rgt (sdK t j).1 (sdK t j).2 u = false)) (fun v5 _ => 3 - (intOf v5).toNat)
  case atStart => exact ⟨0, by omega, rfl, hide (Own.start w), hide (fun j hj => by omega)⟩
  case round =>
    obtain ⟨k, hk, rfl, HO, HN⟩ := hrel
    by_cases h3 : k = 3
    · subst h3
      have E := hide (NO.out HN.out)
      go_wp2
      go_ret
      exact ⟨ret_bool E.out.symm, HO.out.1⟩
    obtain rfl | rfl | rfl : k = 0 ∨ k = 1 ∨ k = 2 := by omega
    · clear hk h3
      have HNK := hide (fun (h : rgt t.p t.q u = false) j (hj : j < 0 + 1) => (show rgt (sdK t j).1 (sdK t j).2 u = false by
        by_cases e : j = 0
        · subst e; exact h
        · exact HN.out j (by omega)))
      have YK := hide (fun (h : rgt t.p t.q u = true) => YES.out 0 (by omega) h)
      have IA : Pnt.in t.p := HT.out.1
      have IB : Pnt.in t.q := HT.out.2.1
      have RW := rgt_ways t.p t.q u
      have s1 : IntKind.i64.wrap 1 = 1 := by decide
      have s2 : (1 : Int).tmod 3 = 1 := by decide
      have BTr := BT.out.below HO.out.1
      have t0 := BTr.c0
      have t1 := BTr.c1
      have t2 := BTr.c2
      have t3 := BTr.c3
      have nb : ¬ bt = wr.heap.size := by have := BTr.lt; omega
      have nb2 : ¬ bt = wr.heap.size + 1 := by have := BTr.lt; omega
      clear BTr
      go_upto_region 4 with (fail)
      go_cut [6, 7] (fun v6 v7 wx => ∃ b6 b7 : Nat, v6 = .pointer (some ⟨b6, 0, none⟩) ∧ v7 = .pointer (some ⟨b7, 0, none⟩) ∧ Hid (Own w wx [(b6, 27, #[.int .i64 t.p.x, .int .i64 t.p.y]), (b7, 27, #[.int .i64 t.q.x, .int .i64 t.q.y])]))
      case first =>
        go_region_held3 (fun w' => w'.cell? ⟨bt, 0, none⟩ = some (.int .i64 t.p.x) ∧ w'.cell? ⟨bt, 1, none⟩ = some (.int .i64 t.p.y) ∧ w'.cell? ⟨bt, 2, none⟩ = some (.int .i64 t.q.x) ∧ w'.cell? ⟨bt, 3, none⟩ = some (.int .i64 t.q.y)) (go_keep) (fail)
        all_goals
          go_wp2_with fail
          go_meet
          refine ⟨_, _, rfl, rfl, ?_⟩
          first | exact hide (own_two HO.out) | exact hide (own_two HO.out).swap
      case rest =>
        obtain ⟨b6, b7, rfl, rfl, HO⟩ := hcut
        clear s1 s2 nb nb2 t0 t1 t2 t3
        have hr := HO.out.r2
        rcases RW with ⟨r1, t1⟩ | ⟨r1, t1, t2⟩ | ⟨r1, t1, t2, t3⟩ | ⟨r1, t1, t2, t3⟩
        · have HN2 := hide (HNK.out r1)
          clear r1 HNK YK HN
          have Tp : ∀ W : World, Calls Tryz.prog 125 #[.agg #[.int .i64 t.p.x, .int .i64 t.p.y], .agg #[.int .i64 t.q.x, .int .i64 t.q.y], .agg #[.int .i64 u.p.x, .int .i64 u.p.y]] W fun e w' => e = .returned (.int .i64 (trn t.p t.q u.p)) ∧ Below W.heap.size W w' := fun W => TN.out W t.p t.q u.p IA IB HU.out.1
          replace Tp := hide Tp
          go_wp2_with fail
          have C1 := fun x : OwnW w [(b6, 27, #[.int .i64 t.p.x, .int .i64 t.p.y]), (b7, 27, #[.int .i64 t.q.x, .int .i64 t.q.y])] => x.own.r2
          have C2 := fun x : OwnW w [(b6, 27, #[.int .i64 t.p.x, .int .i64 t.p.y]), (b7, 27, #[.int .i64 t.q.x, .int .i64 t.q.y])] => BU.out.below x.own.1
          have D0 := fun x : OwnW w [(b6, 27, #[.int .i64 t.p.x, .int .i64 t.p.y]), (b7, 27, #[.int .i64 t.q.x, .int .i64 t.q.y])] => (C2 x).c0
          have D1 := fun x : OwnW w [(b6, 27, #[.int .i64 t.p.x, .int .i64 t.p.y]), (b7, 27, #[.int .i64 t.q.x, .int .i64 t.q.y])] => (C2 x).c1
          have D2 := fun x : OwnW w [(b6, 27, #[.int .i64 t.p.x, .int .i64 t.p.y]), (b7, 27, #[.int .i64 t.q.x, .int .i64 t.q.y])] => (C2 x).c2
          have D3 := fun x : OwnW w [(b6, 27, #[.int .i64 t.p.x, .int .i64 t.p.y]), (b7, 27, #[.int .i64 t.q.x, .int .i64 t.q.y])] => (C2 x).c3
          have D4 := fun x : OwnW w [(b6, 27, #[.int .i64 t.p.x, .int .i64 t.p.y]), (b7, 27, #[.int .i64 t.q.x, .int .i64 t.q.y])] => (C2 x).c4
          have D5 := fun x : OwnW w [(b6, 27, #[.int .i64 t.p.x, .int .i64 t.p.y]), (b7, 27, #[.int .i64 t.q.x, .int .i64 t.q.y])] => (C2 x).c5
          clear C2
          have NE : Nonempty (OwnW w [(b6, 27, #[.int .i64 t.p.x, .int .i64 t.p.y]), (b7, 27, #[.int .i64 t.q.x, .int .i64 t.q.y])]) := ⟨⟨_, HO.out⟩⟩
          refine wp_region_own (w := w) (L := [(b6, 27, #[.int .i64 t.p.x, .int .i64 t.p.y]), (b7, 27, #[.int .i64 t.q.x, .int .i64 t.q.y])]) (by kernel_rfl) (by kernel_rfl) HO.out ?_
          repeat (go_big_quiet_step ((rename_i x; first | with_reducible exact own_call (Tp.out _))))
          refine wpQuiet_nil ?_
          rintro _ ⟨⟨W, HX⟩, rfl⟩
          go_wp2
          go_roundw
          case rel => exact ⟨0 + 1, by omega, rfl, hide HX.tail.tail, HN2⟩
          case measure => simp [intOf]
        · have HN2 := hide (HNK.out r1)
          clear r1 HNK YK HN
          have Tp : ∀ W : World, Calls Tryz.prog 125 #[.agg #[.int .i64 t.p.x, .int .i64 t.p.y], .agg #[.int .i64 t.q.x, .int .i64 t.q.y], .agg #[.int .i64 u.p.x, .int .i64 u.p.y]] W fun e w' => e = .returned (.int .i64 (trn t.p t.q u.p)) ∧ Below W.heap.size W w' := fun W => TN.out W t.p t.q u.p IA IB HU.out.1
          replace Tp := hide Tp
          have Tq : ∀ W : World, Calls Tryz.prog 125 #[.agg #[.int .i64 t.p.x, .int .i64 t.p.y], .agg #[.int .i64 t.q.x, .int .i64 t.q.y], .agg #[.int .i64 u.q.x, .int .i64 u.q.y]] W fun e w' => e = .returned (.int .i64 (trn t.p t.q u.q)) ∧ Below W.heap.size W w' := fun W => TN.out W t.p t.q u.q IA IB HU.out.2.1
          replace Tq := hide Tq
          go_wp2_with fail
          have C1 := fun x : OwnW w [(b6, 27, #[.int .i64 t.p.x, .int .i64 t.p.y]), (b7, 27, #[.int .i64 t.q.x, .int .i64 t.q.y])] => x.own.r2
          have C2 := fun x : OwnW w [(b6, 27, #[.int .i64 t.p.x, .int .i64 t.p.y]), (b7, 27, #[.int .i64 t.q.x, .int .i64 t.q.y])] => BU.out.below x.own.1
          have D0 := fun x : OwnW w [(b6, 27, #[.int .i64 t.p.x, .int .i64 t.p.y]), (b7, 27, #[.int .i64 t.q.x, .int .i64 t.q.y])] => (C2 x).c0
          have D1 := fun x : OwnW w [(b6, 27, #[.int .i64 t.p.x, .int .i64 t.p.y]), (b7, 27, #[.int .i64 t.q.x, .int .i64 t.q.y])] => (C2 x).c1
          have D2 := fun x : OwnW w [(b6, 27, #[.int .i64 t.p.x, .int .i64 t.p.y]), (b7, 27, #[.int .i64 t.q.x, .int .i64 t.q.y])] => (C2 x).c2
          have D3 := fun x : OwnW w [(b6, 27, #[.int .i64 t.p.x, .int .i64 t.p.y]), (b7, 27, #[.int .i64 t.q.x, .int .i64 t.q.y])] => (C2 x).c3
          have D4 := fun x : OwnW w [(b6, 27, #[.int .i64 t.p.x, .int .i64 t.p.y]), (b7, 27, #[.int .i64 t.q.x, .int .i64 t.q.y])] => (C2 x).c4
          have D5 := fun x : OwnW w [(b6, 27, #[.int .i64 t.p.x, .int .i64 t.p.y]), (b7, 27, #[.int .i64 t.q.x, .int .i64 t.q.y])] => (C2 x).c5
          clear C2
          have NE : Nonempty (OwnW w [(b6, 27, #[.int .i64 t.p.x, .int .i64 t.p.y]), (b7, 27, #[.int .i64 t.q.x, .int .i64 t.q.y])]) := ⟨⟨_, HO.out⟩⟩
          refine wp_region_own (w := w) (L := [(b6, 27, #[.int .i64 t.p.x, .int .i64 t.p.y]), (b7, 27, #[.int .i64 t.q.x, .int .i64 t.q.y])]) (by kernel_rfl) (by kernel_rfl) HO.out ?_
          repeat (go_big_quiet_step ((rename_i x; first | with_reducible exact own_call (Tp.out _) | with_reducible exact own_call (Tq.out _))))
          refine wpQuiet_nil ?_
          rintro _ ⟨⟨W, HX⟩, rfl⟩
          go_wp2
          go_roundw
          case rel => exact ⟨0 + 1, by omega, rfl, hide HX.tail.tail, HN2⟩
          case measure => simp [intOf]
        · have HN2 := hide (HNK.out r1)
          clear r1 HNK YK HN
          have Tp : ∀ W : World, Calls Tryz.prog 125 #[.agg #[.int .i64 t.p.x, .int .i64 t.p.y], .agg #[.int .i64 t.q.x, .int .i64 t.q.y], .agg #[.int .i64 u.p.x, .int .i64 u.p.y]] W fun e w' => e = .returned (.int .i64 (trn t.p t.q u.p)) ∧ Below W.heap.size W w' := fun W => TN.out W t.p t.q u.p IA IB HU.out.1
          replace Tp := hide Tp
          have Tq : ∀ W : World, Calls Tryz.prog 125 #[.agg #[.int .i64 t.p.x, .int .i64 t.p.y], .agg #[.int .i64 t.q.x, .int .i64 t.q.y], .agg #[.int .i64 u.q.x, .int .i64 u.q.y]] W fun e w' => e = .returned (.int .i64 (trn t.p t.q u.q)) ∧ Below W.heap.size W w' := fun W => TN.out W t.p t.q u.q IA IB HU.out.2.1
          replace Tq := hide Tq
          have Tr : ∀ W : World, Calls Tryz.prog 125 #[.agg #[.int .i64 t.p.x, .int .i64 t.p.y], .agg #[.int .i64 t.q.x, .int .i64 t.q.y], .agg #[.int .i64 u.r.x, .int .i64 u.r.y]] W fun e w' => e = .returned (.int .i64 (trn t.p t.q u.r)) ∧ Below W.heap.size W w' := fun W => TN.out W t.p t.q u.r IA IB HU.out.2.2
          replace Tr := hide Tr
          go_wp2_with fail
          have C1 := fun x : OwnW w [(b6, 27, #[.int .i64 t.p.x, .int .i64 t.p.y]), (b7, 27, #[.int .i64 t.q.x, .int .i64 t.q.y])] => x.own.r2
          have C2 := fun x : OwnW w [(b6, 27, #[.int .i64 t.p.x, .int .i64 t.p.y]), (b7, 27, #[.int .i64 t.q.x, .int .i64 t.q.y])] => BU.out.below x.own.1
          have D0 := fun x : OwnW w [(b6, 27, #[.int .i64 t.p.x, .int .i64 t.p.y]), (b7, 27, #[.int .i64 t.q.x, .int .i64 t.q.y])] => (C2 x).c0
          have D1 := fun x : OwnW w [(b6, 27, #[.int .i64 t.p.x, .int .i64 t.p.y]), (b7, 27, #[.int .i64 t.q.x, .int .i64 t.q.y])] => (C2 x).c1
          have D2 := fun x : OwnW w [(b6, 27, #[.int .i64 t.p.x, .int .i64 t.p.y]), (b7, 27, #[.int .i64 t.q.x, .int .i64 t.q.y])] => (C2 x).c2
          have D3 := fun x : OwnW w [(b6, 27, #[.int .i64 t.p.x, .int .i64 t.p.y]), (b7, 27, #[.int .i64 t.q.x, .int .i64 t.q.y])] => (C2 x).c3
          have D4 := fun x : OwnW w [(b6, 27, #[.int .i64 t.p.x, .int .i64 t.p.y]), (b7, 27, #[.int .i64 t.q.x, .int .i64 t.q.y])] => (C2 x).c4
          have D5 := fun x : OwnW w [(b6, 27, #[.int .i64 t.p.x, .int .i64 t.p.y]), (b7, 27, #[.int .i64 t.q.x, .int .i64 t.q.y])] => (C2 x).c5
          clear C2
          have NE : Nonempty (OwnW w [(b6, 27, #[.int .i64 t.p.x, .int .i64 t.p.y]), (b7, 27, #[.int .i64 t.q.x, .int .i64 t.q.y])]) := ⟨⟨_, HO.out⟩⟩
          refine wp_region_own (w := w) (L := [(b6, 27, #[.int .i64 t.p.x, .int .i64 t.p.y]), (b7, 27, #[.int .i64 t.q.x, .int .i64 t.q.y])]) (by kernel_rfl) (by kernel_rfl) HO.out ?_
          repeat (go_big_quiet_step ((rename_i x; first | with_reducible exact own_call (Tp.out _) | with_reducible exact own_call (Tq.out _) | with_reducible exact own_call (Tr.out _))))
          refine wpQuiet_nil ?_
          rintro _ ⟨⟨W, HX⟩, rfl⟩
          go_wp2
          go_roundw
          case rel => exact ⟨0 + 1, by omega, rfl, hide HX.tail.tail, HN2⟩
          case measure => simp [intOf]
        · have E := hide (YK.out r1)
          clear r1 HNK YK HN
          have Tp : ∀ W : World, Calls Tryz.prog 125 #[.agg #[.int .i64 t.p.x, .int .i64 t.p.y], .agg #[.int .i64 t.q.x, .int .i64 t.q.y], .agg #[.int .i64 u.p.x, .int .i64 u.p.y]] W fun e w' => e = .returned (.int .i64 (trn t.p t.q u.p)) ∧ Below W.heap.size W w' := fun W => TN.out W t.p t.q u.p IA IB HU.out.1
          replace Tp := hide Tp
          have Tq : ∀ W : World, Calls Tryz.prog 125 #[.agg #[.int .i64 t.p.x, .int .i64 t.p.y], .agg #[.int .i64 t.q.x, .int .i64 t.q.y], .agg #[.int .i64 u.q.x, .int .i64 u.q.y]] W fun e w' => e = .returned (.int .i64 (trn t.p t.q u.q)) ∧ Below W.heap.size W w' := fun W => TN.out W t.p t.q u.q IA IB HU.out.2.1
          replace Tq := hide Tq
          have Tr : ∀ W : World, Calls Tryz.prog 125 #[.agg #[.int .i64 t.p.x, .int .i64 t.p.y], .agg #[.int .i64 t.q.x, .int .i64 t.q.y], .agg #[.int .i64 u.r.x, .int .i64 u.r.y]] W fun e w' => e = .returned (.int .i64 (trn t.p t.q u.r)) ∧ Below W.heap.size W w' := fun W => TN.out W t.p t.q u.r IA IB HU.out.2.2
          replace Tr := hide Tr
          go_wp2_with fail
          have C1 := fun x : OwnW w [(b6, 27, #[.int .i64 t.p.x, .int .i64 t.p.y]), (b7, 27, #[.int .i64 t.q.x, .int .i64 t.q.y])] => x.own.r2
          have C2 := fun x : OwnW w [(b6, 27, #[.int .i64 t.p.x, .int .i64 t.p.y]), (b7, 27, #[.int .i64 t.q.x, .int .i64 t.q.y])] => BU.out.below x.own.1
          have D0 := fun x : OwnW w [(b6, 27, #[.int .i64 t.p.x, .int .i64 t.p.y]), (b7, 27, #[.int .i64 t.q.x, .int .i64 t.q.y])] => (C2 x).c0
          have D1 := fun x : OwnW w [(b6, 27, #[.int .i64 t.p.x, .int .i64 t.p.y]), (b7, 27, #[.int .i64 t.q.x, .int .i64 t.q.y])] => (C2 x).c1
          have D2 := fun x : OwnW w [(b6, 27, #[.int .i64 t.p.x, .int .i64 t.p.y]), (b7, 27, #[.int .i64 t.q.x, .int .i64 t.q.y])] => (C2 x).c2
          have D3 := fun x : OwnW w [(b6, 27, #[.int .i64 t.p.x, .int .i64 t.p.y]), (b7, 27, #[.int .i64 t.q.x, .int .i64 t.q.y])] => (C2 x).c3
          have D4 := fun x : OwnW w [(b6, 27, #[.int .i64 t.p.x, .int .i64 t.p.y]), (b7, 27, #[.int .i64 t.q.x, .int .i64 t.q.y])] => (C2 x).c4
          have D5 := fun x : OwnW w [(b6, 27, #[.int .i64 t.p.x, .int .i64 t.p.y]), (b7, 27, #[.int .i64 t.q.x, .int .i64 t.q.y])] => (C2 x).c5
          clear C2
          have NE : Nonempty (OwnW w [(b6, 27, #[.int .i64 t.p.x, .int .i64 t.p.y]), (b7, 27, #[.int .i64 t.q.x, .int .i64 t.q.y])]) := ⟨⟨_, HO.out⟩⟩
          refine wp_region_own (w := w) (L := [(b6, 27, #[.int .i64 t.p.x, .int .i64 t.p.y]), (b7, 27, #[.int .i64 t.q.x, .int .i64 t.q.y])]) (by kernel_rfl) (by kernel_rfl) HO.out ?_
          repeat (go_big_quiet_step ((rename_i x; first | with_reducible exact own_call (Tp.out _) | with_reducible exact own_call (Tq.out _) | with_reducible exact own_call (Tr.out _))))
          refine wpQuiet_nil ?_
          rintro _ ⟨⟨W, HX⟩, rfl⟩
          go_wp2
          go_ret
          exact ⟨ret_bool E.out.symm, HX.1⟩
    · clear hk h3
      have HNK := hide (fun (h : rgt t.q t.r u = false) j (hj : j < 1 + 1) => (show rgt (sdK t j).1 (sdK t j).2 u = false by
        by_cases e : j = 1
        · subst e; exact h
        · exact HN.out j (by omega)))
      have YK := hide (fun (h : rgt t.q t.r u = true) => YES.out 1 (by omega) h)
      have IA : Pnt.in t.q := HT.out.2.1
      have IB : Pnt.in t.r := HT.out.2.2
      have RW := rgt_ways t.q t.r u
      have s1 : IntKind.i64.wrap 2 = 2 := by decide
      have s2 : (2 : Int).tmod 3 = 2 := by decide
      have BTr := BT.out.below HO.out.1
      have t2 := BTr.c2
      have t3 := BTr.c3
      have t4 := BTr.c4
      have t5 := BTr.c5
      have nb : ¬ bt = wr.heap.size := by have := BTr.lt; omega
      have nb2 : ¬ bt = wr.heap.size + 1 := by have := BTr.lt; omega
      clear BTr
      go_upto_region 4 with (fail)
      go_cut [6, 7] (fun v6 v7 wx => ∃ b6 b7 : Nat, v6 = .pointer (some ⟨b6, 0, none⟩) ∧ v7 = .pointer (some ⟨b7, 0, none⟩) ∧ Hid (Own w wx [(b6, 27, #[.int .i64 t.q.x, .int .i64 t.q.y]), (b7, 27, #[.int .i64 t.r.x, .int .i64 t.r.y])]))
      case first =>
        go_region_held3 (fun w' => w'.cell? ⟨bt, 2, none⟩ = some (.int .i64 t.q.x) ∧ w'.cell? ⟨bt, 3, none⟩ = some (.int .i64 t.q.y) ∧ w'.cell? ⟨bt, 4, none⟩ = some (.int .i64 t.r.x) ∧ w'.cell? ⟨bt, 5, none⟩ = some (.int .i64 t.r.y)) (go_keep) (fail)
        all_goals
          go_wp2_with fail
          go_meet
          refine ⟨_, _, rfl, rfl, ?_⟩
          first | exact hide (own_two HO.out) | exact hide (own_two HO.out).swap
      case rest =>
        obtain ⟨b6, b7, rfl, rfl, HO⟩ := hcut
        clear s1 s2 nb nb2 t2 t3 t4 t5
        have hr := HO.out.r2
        rcases RW with ⟨r1, t1⟩ | ⟨r1, t1, t2⟩ | ⟨r1, t1, t2, t3⟩ | ⟨r1, t1, t2, t3⟩
        · have HN2 := hide (HNK.out r1)
          clear r1 HNK YK HN
          have Tp : ∀ W : World, Calls Tryz.prog 125 #[.agg #[.int .i64 t.q.x, .int .i64 t.q.y], .agg #[.int .i64 t.r.x, .int .i64 t.r.y], .agg #[.int .i64 u.p.x, .int .i64 u.p.y]] W fun e w' => e = .returned (.int .i64 (trn t.q t.r u.p)) ∧ Below W.heap.size W w' := fun W => TN.out W t.q t.r u.p IA IB HU.out.1
          replace Tp := hide Tp
          go_wp2_with fail
          have C1 := fun x : OwnW w [(b6, 27, #[.int .i64 t.q.x, .int .i64 t.q.y]), (b7, 27, #[.int .i64 t.r.x, .int .i64 t.r.y])] => x.own.r2
          have C2 := fun x : OwnW w [(b6, 27, #[.int .i64 t.q.x, .int .i64 t.q.y]), (b7, 27, #[.int .i64 t.r.x, .int .i64 t.r.y])] => BU.out.below x.own.1
          have D0 := fun x : OwnW w [(b6, 27, #[.int .i64 t.q.x, .int .i64 t.q.y]), (b7, 27, #[.int .i64 t.r.x, .int .i64 t.r.y])] => (C2 x).c0
          have D1 := fun x : OwnW w [(b6, 27, #[.int .i64 t.q.x, .int .i64 t.q.y]), (b7, 27, #[.int .i64 t.r.x, .int .i64 t.r.y])] => (C2 x).c1
          have D2 := fun x : OwnW w [(b6, 27, #[.int .i64 t.q.x, .int .i64 t.q.y]), (b7, 27, #[.int .i64 t.r.x, .int .i64 t.r.y])] => (C2 x).c2
          have D3 := fun x : OwnW w [(b6, 27, #[.int .i64 t.q.x, .int .i64 t.q.y]), (b7, 27, #[.int .i64 t.r.x, .int .i64 t.r.y])] => (C2 x).c3
          have D4 := fun x : OwnW w [(b6, 27, #[.int .i64 t.q.x, .int .i64 t.q.y]), (b7, 27, #[.int .i64 t.r.x, .int .i64 t.r.y])] => (C2 x).c4
          have D5 := fun x : OwnW w [(b6, 27, #[.int .i64 t.q.x, .int .i64 t.q.y]), (b7, 27, #[.int .i64 t.r.x, .int .i64 t.r.y])] => (C2 x).c5
          clear C2
          have NE : Nonempty (OwnW w [(b6, 27, #[.int .i64 t.q.x, .int .i64 t.q.y]), (b7, 27, #[.int .i64 t.r.x, .int .i64 t.r.y])]) := ⟨⟨_, HO.out⟩⟩
          refine wp_region_own (w := w) (L := [(b6, 27, #[.int .i64 t.q.x, .int .i64 t.q.y]), (b7, 27, #[.int .i64 t.r.x, .int .i64 t.r.y])]) (by kernel_rfl) (by kernel_rfl) HO.out ?_
          repeat (go_big_quiet_step ((rename_i x; first | with_reducible exact own_call (Tp.out _))))
          refine wpQuiet_nil ?_
          rintro _ ⟨⟨W, HX⟩, rfl⟩
          go_wp2
          go_roundw
          case rel => exact ⟨1 + 1, by omega, rfl, hide HX.tail.tail, HN2⟩
          case measure => simp [intOf]
        · have HN2 := hide (HNK.out r1)
          clear r1 HNK YK HN
          have Tp : ∀ W : World, Calls Tryz.prog 125 #[.agg #[.int .i64 t.q.x, .int .i64 t.q.y], .agg #[.int .i64 t.r.x, .int .i64 t.r.y], .agg #[.int .i64 u.p.x, .int .i64 u.p.y]] W fun e w' => e = .returned (.int .i64 (trn t.q t.r u.p)) ∧ Below W.heap.size W w' := fun W => TN.out W t.q t.r u.p IA IB HU.out.1
          replace Tp := hide Tp
          have Tq : ∀ W : World, Calls Tryz.prog 125 #[.agg #[.int .i64 t.q.x, .int .i64 t.q.y], .agg #[.int .i64 t.r.x, .int .i64 t.r.y], .agg #[.int .i64 u.q.x, .int .i64 u.q.y]] W fun e w' => e = .returned (.int .i64 (trn t.q t.r u.q)) ∧ Below W.heap.size W w' := fun W => TN.out W t.q t.r u.q IA IB HU.out.2.1
          replace Tq := hide Tq
          go_wp2_with fail
          have C1 := fun x : OwnW w [(b6, 27, #[.int .i64 t.q.x, .int .i64 t.q.y]), (b7, 27, #[.int .i64 t.r.x, .int .i64 t.r.y])] => x.own.r2
          have C2 := fun x : OwnW w [(b6, 27, #[.int .i64 t.q.x, .int .i64 t.q.y]), (b7, 27, #[.int .i64 t.r.x, .int .i64 t.r.y])] => BU.out.below x.own.1
          have D0 := fun x : OwnW w [(b6, 27, #[.int .i64 t.q.x, .int .i64 t.q.y]), (b7, 27, #[.int .i64 t.r.x, .int .i64 t.r.y])] => (C2 x).c0
          have D1 := fun x : OwnW w [(b6, 27, #[.int .i64 t.q.x, .int .i64 t.q.y]), (b7, 27, #[.int .i64 t.r.x, .int .i64 t.r.y])] => (C2 x).c1
          have D2 := fun x : OwnW w [(b6, 27, #[.int .i64 t.q.x, .int .i64 t.q.y]), (b7, 27, #[.int .i64 t.r.x, .int .i64 t.r.y])] => (C2 x).c2
          have D3 := fun x : OwnW w [(b6, 27, #[.int .i64 t.q.x, .int .i64 t.q.y]), (b7, 27, #[.int .i64 t.r.x, .int .i64 t.r.y])] => (C2 x).c3
          have D4 := fun x : OwnW w [(b6, 27, #[.int .i64 t.q.x, .int .i64 t.q.y]), (b7, 27, #[.int .i64 t.r.x, .int .i64 t.r.y])] => (C2 x).c4
          have D5 := fun x : OwnW w [(b6, 27, #[.int .i64 t.q.x, .int .i64 t.q.y]), (b7, 27, #[.int .i64 t.r.x, .int .i64 t.r.y])] => (C2 x).c5
          clear C2
          have NE : Nonempty (OwnW w [(b6, 27, #[.int .i64 t.q.x, .int .i64 t.q.y]), (b7, 27, #[.int .i64 t.r.x, .int .i64 t.r.y])]) := ⟨⟨_, HO.out⟩⟩
          refine wp_region_own (w := w) (L := [(b6, 27, #[.int .i64 t.q.x, .int .i64 t.q.y]), (b7, 27, #[.int .i64 t.r.x, .int .i64 t.r.y])]) (by kernel_rfl) (by kernel_rfl) HO.out ?_
          repeat (go_big_quiet_step ((rename_i x; first | with_reducible exact own_call (Tp.out _) | with_reducible exact own_call (Tq.out _))))
          refine wpQuiet_nil ?_
          rintro _ ⟨⟨W, HX⟩, rfl⟩
          go_wp2
          go_roundw
          case rel => exact ⟨1 + 1, by omega, rfl, hide HX.tail.tail, HN2⟩
          case measure => simp [intOf]
        · have HN2 := hide (HNK.out r1)
          clear r1 HNK YK HN
          have Tp : ∀ W : World, Calls Tryz.prog 125 #[.agg #[.int .i64 t.q.x, .int .i64 t.q.y], .agg #[.int .i64 t.r.x, .int .i64 t.r.y], .agg #[.int .i64 u.p.x, .int .i64 u.p.y]] W fun e w' => e = .returned (.int .i64 (trn t.q t.r u.p)) ∧ Below W.heap.size W w' := fun W => TN.out W t.q t.r u.p IA IB HU.out.1
          replace Tp := hide Tp
          have Tq : ∀ W : World, Calls Tryz.prog 125 #[.agg #[.int .i64 t.q.x, .int .i64 t.q.y], .agg #[.int .i64 t.r.x, .int .i64 t.r.y], .agg #[.int .i64 u.q.x, .int .i64 u.q.y]] W fun e w' => e = .returned (.int .i64 (trn t.q t.r u.q)) ∧ Below W.heap.size W w' := fun W => TN.out W t.q t.r u.q IA IB HU.out.2.1
          replace Tq := hide Tq
          have Tr : ∀ W : World, Calls Tryz.prog 125 #[.agg #[.int .i64 t.q.x, .int .i64 t.q.y], .agg #[.int .i64 t.r.x, .int .i64 t.r.y], .agg #[.int .i64 u.r.x, .int .i64 u.r.y]] W fun e w' => e = .returned (.int .i64 (trn t.q t.r u.r)) ∧ Below W.heap.size W w' := fun W => TN.out W t.q t.r u.r IA IB HU.out.2.2
          replace Tr := hide Tr
          go_wp2_with fail
          have C1 := fun x : OwnW w [(b6, 27, #[.int .i64 t.q.x, .int .i64 t.q.y]), (b7, 27, #[.int .i64 t.r.x, .int .i64 t.r.y])] => x.own.r2
          have C2 := fun x : OwnW w [(b6, 27, #[.int .i64 t.q.x, .int .i64 t.q.y]), (b7, 27, #[.int .i64 t.r.x, .int .i64 t.r.y])] => BU.out.below x.own.1
          have D0 := fun x : OwnW w [(b6, 27, #[.int .i64 t.q.x, .int .i64 t.q.y]), (b7, 27, #[.int .i64 t.r.x, .int .i64 t.r.y])] => (C2 x).c0
          have D1 := fun x : OwnW w [(b6, 27, #[.int .i64 t.q.x, .int .i64 t.q.y]), (b7, 27, #[.int .i64 t.r.x, .int .i64 t.r.y])] => (C2 x).c1
          have D2 := fun x : OwnW w [(b6, 27, #[.int .i64 t.q.x, .int .i64 t.q.y]), (b7, 27, #[.int .i64 t.r.x, .int .i64 t.r.y])] => (C2 x).c2
          have D3 := fun x : OwnW w [(b6, 27, #[.int .i64 t.q.x, .int .i64 t.q.y]), (b7, 27, #[.int .i64 t.r.x, .int .i64 t.r.y])] => (C2 x).c3
          have D4 := fun x : OwnW w [(b6, 27, #[.int .i64 t.q.x, .int .i64 t.q.y]), (b7, 27, #[.int .i64 t.r.x, .int .i64 t.r.y])] => (C2 x).c4
          have D5 := fun x : OwnW w [(b6, 27, #[.int .i64 t.q.x, .int .i64 t.q.y]), (b7, 27, #[.int .i64 t.r.x, .int .i64 t.r.y])] => (C2 x).c5
          clear C2
          have NE : Nonempty (OwnW w [(b6, 27, #[.int .i64 t.q.x, .int .i64 t.q.y]), (b7, 27, #[.int .i64 t.r.x, .int .i64 t.r.y])]) := ⟨⟨_, HO.out⟩⟩
          refine wp_region_own (w := w) (L := [(b6, 27, #[.int .i64 t.q.x, .int .i64 t.q.y]), (b7, 27, #[.int .i64 t.r.x, .int .i64 t.r.y])]) (by kernel_rfl) (by kernel_rfl) HO.out ?_
          repeat (go_big_quiet_step ((rename_i x; first | with_reducible exact own_call (Tp.out _) | with_reducible exact own_call (Tq.out _) | with_reducible exact own_call (Tr.out _))))
          refine wpQuiet_nil ?_
          rintro _ ⟨⟨W, HX⟩, rfl⟩
          go_wp2
          go_roundw
          case rel => exact ⟨1 + 1, by omega, rfl, hide HX.tail.tail, HN2⟩
          case measure => simp [intOf]
        · have E := hide (YK.out r1)
          clear r1 HNK YK HN
          have Tp : ∀ W : World, Calls Tryz.prog 125 #[.agg #[.int .i64 t.q.x, .int .i64 t.q.y], .agg #[.int .i64 t.r.x, .int .i64 t.r.y], .agg #[.int .i64 u.p.x, .int .i64 u.p.y]] W fun e w' => e = .returned (.int .i64 (trn t.q t.r u.p)) ∧ Below W.heap.size W w' := fun W => TN.out W t.q t.r u.p IA IB HU.out.1
          replace Tp := hide Tp
          have Tq : ∀ W : World, Calls Tryz.prog 125 #[.agg #[.int .i64 t.q.x, .int .i64 t.q.y], .agg #[.int .i64 t.r.x, .int .i64 t.r.y], .agg #[.int .i64 u.q.x, .int .i64 u.q.y]] W fun e w' => e = .returned (.int .i64 (trn t.q t.r u.q)) ∧ Below W.heap.size W w' := fun W => TN.out W t.q t.r u.q IA IB HU.out.2.1
          replace Tq := hide Tq
          have Tr : ∀ W : World, Calls Tryz.prog 125 #[.agg #[.int .i64 t.q.x, .int .i64 t.q.y], .agg #[.int .i64 t.r.x, .int .i64 t.r.y], .agg #[.int .i64 u.r.x, .int .i64 u.r.y]] W fun e w' => e = .returned (.int .i64 (trn t.q t.r u.r)) ∧ Below W.heap.size W w' := fun W => TN.out W t.q t.r u.r IA IB HU.out.2.2
          replace Tr := hide Tr
          go_wp2_with fail
          have C1 := fun x : OwnW w [(b6, 27, #[.int .i64 t.q.x, .int .i64 t.q.y]), (b7, 27, #[.int .i64 t.r.x, .int .i64 t.r.y])] => x.own.r2
          have C2 := fun x : OwnW w [(b6, 27, #[.int .i64 t.q.x, .int .i64 t.q.y]), (b7, 27, #[.int .i64 t.r.x, .int .i64 t.r.y])] => BU.out.below x.own.1
          have D0 := fun x : OwnW w [(b6, 27, #[.int .i64 t.q.x, .int .i64 t.q.y]), (b7, 27, #[.int .i64 t.r.x, .int .i64 t.r.y])] => (C2 x).c0
          have D1 := fun x : OwnW w [(b6, 27, #[.int .i64 t.q.x, .int .i64 t.q.y]), (b7, 27, #[.int .i64 t.r.x, .int .i64 t.r.y])] => (C2 x).c1
          have D2 := fun x : OwnW w [(b6, 27, #[.int .i64 t.q.x, .int .i64 t.q.y]), (b7, 27, #[.int .i64 t.r.x, .int .i64 t.r.y])] => (C2 x).c2
          have D3 := fun x : OwnW w [(b6, 27, #[.int .i64 t.q.x, .int .i64 t.q.y]), (b7, 27, #[.int .i64 t.r.x, .int .i64 t.r.y])] => (C2 x).c3
          have D4 := fun x : OwnW w [(b6, 27, #[.int .i64 t.q.x, .int .i64 t.q.y]), (b7, 27, #[.int .i64 t.r.x, .int .i64 t.r.y])] => (C2 x).c4
          have D5 := fun x : OwnW w [(b6, 27, #[.int .i64 t.q.x, .int .i64 t.q.y]), (b7, 27, #[.int .i64 t.r.x, .int .i64 t.r.y])] => (C2 x).c5
          clear C2
          have NE : Nonempty (OwnW w [(b6, 27, #[.int .i64 t.q.x, .int .i64 t.q.y]), (b7, 27, #[.int .i64 t.r.x, .int .i64 t.r.y])]) := ⟨⟨_, HO.out⟩⟩
          refine wp_region_own (w := w) (L := [(b6, 27, #[.int .i64 t.q.x, .int .i64 t.q.y]), (b7, 27, #[.int .i64 t.r.x, .int .i64 t.r.y])]) (by kernel_rfl) (by kernel_rfl) HO.out ?_
          repeat (go_big_quiet_step ((rename_i x; first | with_reducible exact own_call (Tp.out _) | with_reducible exact own_call (Tq.out _) | with_reducible exact own_call (Tr.out _))))
          refine wpQuiet_nil ?_
          rintro _ ⟨⟨W, HX⟩, rfl⟩
          go_wp2
          go_ret
          exact ⟨ret_bool E.out.symm, HX.1⟩
    · clear hk h3
      have HNK := hide (fun (h : rgt t.r t.p u = false) j (hj : j < 2 + 1) => (show rgt (sdK t j).1 (sdK t j).2 u = false by
        by_cases e : j = 2
        · subst e; exact h
        · exact HN.out j (by omega)))
      have YK := hide (fun (h : rgt t.r t.p u = true) => YES.out 2 (by omega) h)
      have IA : Pnt.in t.r := HT.out.2.2
      have IB : Pnt.in t.p := HT.out.1
      have RW := rgt_ways t.r t.p u
      have s1 : IntKind.i64.wrap 3 = 3 := by decide
      have s2 : (3 : Int).tmod 3 = 0 := by decide
      have BTr := BT.out.below HO.out.1
      have t0 := BTr.c0
      have t1 := BTr.c1
      have t4 := BTr.c4
      have t5 := BTr.c5
      have nb : ¬ bt = wr.heap.size := by have := BTr.lt; omega
      have nb2 : ¬ bt = wr.heap.size + 1 := by have := BTr.lt; omega
      clear BTr
      go_upto_region 4 with (fail)
      go_cut [6, 7] (fun v6 v7 wx => ∃ b6 b7 : Nat, v6 = .pointer (some ⟨b6, 0, none⟩) ∧ v7 = .pointer (some ⟨b7, 0, none⟩) ∧ Hid (Own w wx [(b6, 27, #[.int .i64 t.r.x, .int .i64 t.r.y]), (b7, 27, #[.int .i64 t.p.x, .int .i64 t.p.y])]))
      case first =>
        go_region_held3 (fun w' => w'.cell? ⟨bt, 0, none⟩ = some (.int .i64 t.p.x) ∧ w'.cell? ⟨bt, 1, none⟩ = some (.int .i64 t.p.y) ∧ w'.cell? ⟨bt, 4, none⟩ = some (.int .i64 t.r.x) ∧ w'.cell? ⟨bt, 5, none⟩ = some (.int .i64 t.r.y)) (go_keep) (fail)
        all_goals
          go_wp2_with fail
          go_meet
          refine ⟨_, _, rfl, rfl, ?_⟩
          first | exact hide (own_two HO.out) | exact hide (own_two HO.out).swap
      case rest =>
        obtain ⟨b6, b7, rfl, rfl, HO⟩ := hcut
        clear s1 s2 nb nb2 t0 t1 t4 t5
        have hr := HO.out.r2
        rcases RW with ⟨r1, t1⟩ | ⟨r1, t1, t2⟩ | ⟨r1, t1, t2, t3⟩ | ⟨r1, t1, t2, t3⟩
        · have HN2 := hide (HNK.out r1)
          clear r1 HNK YK HN
          have Tp : ∀ W : World, Calls Tryz.prog 125 #[.agg #[.int .i64 t.r.x, .int .i64 t.r.y], .agg #[.int .i64 t.p.x, .int .i64 t.p.y], .agg #[.int .i64 u.p.x, .int .i64 u.p.y]] W fun e w' => e = .returned (.int .i64 (trn t.r t.p u.p)) ∧ Below W.heap.size W w' := fun W => TN.out W t.r t.p u.p IA IB HU.out.1
          replace Tp := hide Tp
          go_wp2_with fail
          have C1 := fun x : OwnW w [(b6, 27, #[.int .i64 t.r.x, .int .i64 t.r.y]), (b7, 27, #[.int .i64 t.p.x, .int .i64 t.p.y])] => x.own.r2
          have C2 := fun x : OwnW w [(b6, 27, #[.int .i64 t.r.x, .int .i64 t.r.y]), (b7, 27, #[.int .i64 t.p.x, .int .i64 t.p.y])] => BU.out.below x.own.1
          have D0 := fun x : OwnW w [(b6, 27, #[.int .i64 t.r.x, .int .i64 t.r.y]), (b7, 27, #[.int .i64 t.p.x, .int .i64 t.p.y])] => (C2 x).c0
          have D1 := fun x : OwnW w [(b6, 27, #[.int .i64 t.r.x, .int .i64 t.r.y]), (b7, 27, #[.int .i64 t.p.x, .int .i64 t.p.y])] => (C2 x).c1
          have D2 := fun x : OwnW w [(b6, 27, #[.int .i64 t.r.x, .int .i64 t.r.y]), (b7, 27, #[.int .i64 t.p.x, .int .i64 t.p.y])] => (C2 x).c2
          have D3 := fun x : OwnW w [(b6, 27, #[.int .i64 t.r.x, .int .i64 t.r.y]), (b7, 27, #[.int .i64 t.p.x, .int .i64 t.p.y])] => (C2 x).c3
          have D4 := fun x : OwnW w [(b6, 27, #[.int .i64 t.r.x, .int .i64 t.r.y]), (b7, 27, #[.int .i64 t.p.x, .int .i64 t.p.y])] => (C2 x).c4
          have D5 := fun x : OwnW w [(b6, 27, #[.int .i64 t.r.x, .int .i64 t.r.y]), (b7, 27, #[.int .i64 t.p.x, .int .i64 t.p.y])] => (C2 x).c5
          clear C2
          have NE : Nonempty (OwnW w [(b6, 27, #[.int .i64 t.r.x, .int .i64 t.r.y]), (b7, 27, #[.int .i64 t.p.x, .int .i64 t.p.y])]) := ⟨⟨_, HO.out⟩⟩
          refine wp_region_own (w := w) (L := [(b6, 27, #[.int .i64 t.r.x, .int .i64 t.r.y]), (b7, 27, #[.int .i64 t.p.x, .int .i64 t.p.y])]) (by kernel_rfl) (by kernel_rfl) HO.out ?_
          repeat (go_big_quiet_step ((rename_i x; first | with_reducible exact own_call (Tp.out _))))
          refine wpQuiet_nil ?_
          rintro _ ⟨⟨W, HX⟩, rfl⟩
          go_wp2
          go_roundw
          case rel => exact ⟨2 + 1, by omega, rfl, hide HX.tail.tail, HN2⟩
          case measure => simp [intOf]
        · have HN2 := hide (HNK.out r1)
          clear r1 HNK YK HN
          have Tp : ∀ W : World, Calls Tryz.prog 125 #[.agg #[.int .i64 t.r.x, .int .i64 t.r.y], .agg #[.int .i64 t.p.x, .int .i64 t.p.y], .agg #[.int .i64 u.p.x, .int .i64 u.p.y]] W fun e w' => e = .returned (.int .i64 (trn t.r t.p u.p)) ∧ Below W.heap.size W w' := fun W => TN.out W t.r t.p u.p IA IB HU.out.1
          replace Tp := hide Tp
          have Tq : ∀ W : World, Calls Tryz.prog 125 #[.agg #[.int .i64 t.r.x, .int .i64 t.r.y], .agg #[.int .i64 t.p.x, .int .i64 t.p.y], .agg #[.int .i64 u.q.x, .int .i64 u.q.y]] W fun e w' => e = .returned (.int .i64 (trn t.r t.p u.q)) ∧ Below W.heap.size W w' := fun W => TN.out W t.r t.p u.q IA IB HU.out.2.1
          replace Tq := hide Tq
          go_wp2_with fail
          have C1 := fun x : OwnW w [(b6, 27, #[.int .i64 t.r.x, .int .i64 t.r.y]), (b7, 27, #[.int .i64 t.p.x, .int .i64 t.p.y])] => x.own.r2
          have C2 := fun x : OwnW w [(b6, 27, #[.int .i64 t.r.x, .int .i64 t.r.y]), (b7, 27, #[.int .i64 t.p.x, .int .i64 t.p.y])] => BU.out.below x.own.1
          have D0 := fun x : OwnW w [(b6, 27, #[.int .i64 t.r.x, .int .i64 t.r.y]), (b7, 27, #[.int .i64 t.p.x, .int .i64 t.p.y])] => (C2 x).c0
          have D1 := fun x : OwnW w [(b6, 27, #[.int .i64 t.r.x, .int .i64 t.r.y]), (b7, 27, #[.int .i64 t.p.x, .int .i64 t.p.y])] => (C2 x).c1
          have D2 := fun x : OwnW w [(b6, 27, #[.int .i64 t.r.x, .int .i64 t.r.y]), (b7, 27, #[.int .i64 t.p.x, .int .i64 t.p.y])] => (C2 x).c2
          have D3 := fun x : OwnW w [(b6, 27, #[.int .i64 t.r.x, .int .i64 t.r.y]), (b7, 27, #[.int .i64 t.p.x, .int .i64 t.p.y])] => (C2 x).c3
          have D4 := fun x : OwnW w [(b6, 27, #[.int .i64 t.r.x, .int .i64 t.r.y]), (b7, 27, #[.int .i64 t.p.x, .int .i64 t.p.y])] => (C2 x).c4
          have D5 := fun x : OwnW w [(b6, 27, #[.int .i64 t.r.x, .int .i64 t.r.y]), (b7, 27, #[.int .i64 t.p.x, .int .i64 t.p.y])] => (C2 x).c5
          clear C2
          have NE : Nonempty (OwnW w [(b6, 27, #[.int .i64 t.r.x, .int .i64 t.r.y]), (b7, 27, #[.int .i64 t.p.x, .int .i64 t.p.y])]) := ⟨⟨_, HO.out⟩⟩
          refine wp_region_own (w := w) (L := [(b6, 27, #[.int .i64 t.r.x, .int .i64 t.r.y]), (b7, 27, #[.int .i64 t.p.x, .int .i64 t.p.y])]) (by kernel_rfl) (by kernel_rfl) HO.out ?_
          repeat (go_big_quiet_step ((rename_i x; first | with_reducible exact own_call (Tp.out _) | with_reducible exact own_call (Tq.out _))))
          refine wpQuiet_nil ?_
          rintro _ ⟨⟨W, HX⟩, rfl⟩
          go_wp2
          go_roundw
          case rel => exact ⟨2 + 1, by omega, rfl, hide HX.tail.tail, HN2⟩
          case measure => simp [intOf]
        · have HN2 := hide (HNK.out r1)
          clear r1 HNK YK HN
          have Tp : ∀ W : World, Calls Tryz.prog 125 #[.agg #[.int .i64 t.r.x, .int .i64 t.r.y], .agg #[.int .i64 t.p.x, .int .i64 t.p.y], .agg #[.int .i64 u.p.x, .int .i64 u.p.y]] W fun e w' => e = .returned (.int .i64 (trn t.r t.p u.p)) ∧ Below W.heap.size W w' := fun W => TN.out W t.r t.p u.p IA IB HU.out.1
          replace Tp := hide Tp
          have Tq : ∀ W : World, Calls Tryz.prog 125 #[.agg #[.int .i64 t.r.x, .int .i64 t.r.y], .agg #[.int .i64 t.p.x, .int .i64 t.p.y], .agg #[.int .i64 u.q.x, .int .i64 u.q.y]] W fun e w' => e = .returned (.int .i64 (trn t.r t.p u.q)) ∧ Below W.heap.size W w' := fun W => TN.out W t.r t.p u.q IA IB HU.out.2.1
          replace Tq := hide Tq
          have Tr : ∀ W : World, Calls Tryz.prog 125 #[.agg #[.int .i64 t.r.x, .int .i64 t.r.y], .agg #[.int .i64 t.p.x, .int .i64 t.p.y], .agg #[.int .i64 u.r.x, .int .i64 u.r.y]] W fun e w' => e = .returned (.int .i64 (trn t.r t.p u.r)) ∧ Below W.heap.size W w' := fun W => TN.out W t.r t.p u.r IA IB HU.out.2.2
          replace Tr := hide Tr
          go_wp2_with fail
          have C1 := fun x : OwnW w [(b6, 27, #[.int .i64 t.r.x, .int .i64 t.r.y]), (b7, 27, #[.int .i64 t.p.x, .int .i64 t.p.y])] => x.own.r2
          have C2 := fun x : OwnW w [(b6, 27, #[.int .i64 t.r.x, .int .i64 t.r.y]), (b7, 27, #[.int .i64 t.p.x, .int .i64 t.p.y])] => BU.out.below x.own.1
          have D0 := fun x : OwnW w [(b6, 27, #[.int .i64 t.r.x, .int .i64 t.r.y]), (b7, 27, #[.int .i64 t.p.x, .int .i64 t.p.y])] => (C2 x).c0
          have D1 := fun x : OwnW w [(b6, 27, #[.int .i64 t.r.x, .int .i64 t.r.y]), (b7, 27, #[.int .i64 t.p.x, .int .i64 t.p.y])] => (C2 x).c1
          have D2 := fun x : OwnW w [(b6, 27, #[.int .i64 t.r.x, .int .i64 t.r.y]), (b7, 27, #[.int .i64 t.p.x, .int .i64 t.p.y])] => (C2 x).c2
          have D3 := fun x : OwnW w [(b6, 27, #[.int .i64 t.r.x, .int .i64 t.r.y]), (b7, 27, #[.int .i64 t.p.x, .int .i64 t.p.y])] => (C2 x).c3
          have D4 := fun x : OwnW w [(b6, 27, #[.int .i64 t.r.x, .int .i64 t.r.y]), (b7, 27, #[.int .i64 t.p.x, .int .i64 t.p.y])] => (C2 x).c4
          have D5 := fun x : OwnW w [(b6, 27, #[.int .i64 t.r.x, .int .i64 t.r.y]), (b7, 27, #[.int .i64 t.p.x, .int .i64 t.p.y])] => (C2 x).c5
          clear C2
          have NE : Nonempty (OwnW w [(b6, 27, #[.int .i64 t.r.x, .int .i64 t.r.y]), (b7, 27, #[.int .i64 t.p.x, .int .i64 t.p.y])]) := ⟨⟨_, HO.out⟩⟩
          refine wp_region_own (w := w) (L := [(b6, 27, #[.int .i64 t.r.x, .int .i64 t.r.y]), (b7, 27, #[.int .i64 t.p.x, .int .i64 t.p.y])]) (by kernel_rfl) (by kernel_rfl) HO.out ?_
          repeat (go_big_quiet_step ((rename_i x; first | with_reducible exact own_call (Tp.out _) | with_reducible exact own_call (Tq.out _) | with_reducible exact own_call (Tr.out _))))
          refine wpQuiet_nil ?_
          rintro _ ⟨⟨W, HX⟩, rfl⟩
          go_wp2
          go_roundw
          case rel => exact ⟨2 + 1, by omega, rfl, hide HX.tail.tail, HN2⟩
          case measure => simp [intOf]
        · have E := hide (YK.out r1)
          clear r1 HNK YK HN
          have Tp : ∀ W : World, Calls Tryz.prog 125 #[.agg #[.int .i64 t.r.x, .int .i64 t.r.y], .agg #[.int .i64 t.p.x, .int .i64 t.p.y], .agg #[.int .i64 u.p.x, .int .i64 u.p.y]] W fun e w' => e = .returned (.int .i64 (trn t.r t.p u.p)) ∧ Below W.heap.size W w' := fun W => TN.out W t.r t.p u.p IA IB HU.out.1
          replace Tp := hide Tp
          have Tq : ∀ W : World, Calls Tryz.prog 125 #[.agg #[.int .i64 t.r.x, .int .i64 t.r.y], .agg #[.int .i64 t.p.x, .int .i64 t.p.y], .agg #[.int .i64 u.q.x, .int .i64 u.q.y]] W fun e w' => e = .returned (.int .i64 (trn t.r t.p u.q)) ∧ Below W.heap.size W w' := fun W => TN.out W t.r t.p u.q IA IB HU.out.2.1
          replace Tq := hide Tq
          have Tr : ∀ W : World, Calls Tryz.prog 125 #[.agg #[.int .i64 t.r.x, .int .i64 t.r.y], .agg #[.int .i64 t.p.x, .int .i64 t.p.y], .agg #[.int .i64 u.r.x, .int .i64 u.r.y]] W fun e w' => e = .returned (.int .i64 (trn t.r t.p u.r)) ∧ Below W.heap.size W w' := fun W => TN.out W t.r t.p u.r IA IB HU.out.2.2
          replace Tr := hide Tr
          go_wp2_with fail
          have C1 := fun x : OwnW w [(b6, 27, #[.int .i64 t.r.x, .int .i64 t.r.y]), (b7, 27, #[.int .i64 t.p.x, .int .i64 t.p.y])] => x.own.r2
          have C2 := fun x : OwnW w [(b6, 27, #[.int .i64 t.r.x, .int .i64 t.r.y]), (b7, 27, #[.int .i64 t.p.x, .int .i64 t.p.y])] => BU.out.below x.own.1
          have D0 := fun x : OwnW w [(b6, 27, #[.int .i64 t.r.x, .int .i64 t.r.y]), (b7, 27, #[.int .i64 t.p.x, .int .i64 t.p.y])] => (C2 x).c0
          have D1 := fun x : OwnW w [(b6, 27, #[.int .i64 t.r.x, .int .i64 t.r.y]), (b7, 27, #[.int .i64 t.p.x, .int .i64 t.p.y])] => (C2 x).c1
          have D2 := fun x : OwnW w [(b6, 27, #[.int .i64 t.r.x, .int .i64 t.r.y]), (b7, 27, #[.int .i64 t.p.x, .int .i64 t.p.y])] => (C2 x).c2
          have D3 := fun x : OwnW w [(b6, 27, #[.int .i64 t.r.x, .int .i64 t.r.y]), (b7, 27, #[.int .i64 t.p.x, .int .i64 t.p.y])] => (C2 x).c3
          have D4 := fun x : OwnW w [(b6, 27, #[.int .i64 t.r.x, .int .i64 t.r.y]), (b7, 27, #[.int .i64 t.p.x, .int .i64 t.p.y])] => (C2 x).c4
          have D5 := fun x : OwnW w [(b6, 27, #[.int .i64 t.r.x, .int .i64 t.r.y]), (b7, 27, #[.int .i64 t.p.x, .int .i64 t.p.y])] => (C2 x).c5
          clear C2
          have NE : Nonempty (OwnW w [(b6, 27, #[.int .i64 t.r.x, .int .i64 t.r.y]), (b7, 27, #[.int .i64 t.p.x, .int .i64 t.p.y])]) := ⟨⟨_, HO.out⟩⟩
          refine wp_region_own (w := w) (L := [(b6, 27, #[.int .i64 t.r.x, .int .i64 t.r.y]), (b7, 27, #[.int .i64 t.p.x, .int .i64 t.p.y])]) (by kernel_rfl) (by kernel_rfl) HO.out ?_
          repeat (go_big_quiet_step ((rename_i x; first | with_reducible exact own_call (Tp.out _) | with_reducible exact own_call (Tq.out _) | with_reducible exact own_call (Tr.out _))))
          refine wpQuiet_nil ?_
          rintro _ ⟨⟨W, HX⟩, rfl⟩
          go_wp2
          go_ret
          exact ⟨ret_bool E.out.symm, HX.1⟩
end Go.Proofs.YtbmocghfpcfmhaaGreatDoor
