/- Parts of one proof, joined: The program's tables: fits, Valid: what each returns; nothing that was there is turned. (Printed by gen_knf.py.). The program's networks: between, level, shaped, rightNode: what each returns; nothing that was there is turned. (Printed by gen_nwf.py.). The program's plain and sameLink, and slices.Equal at knots: what each returns; nothing that was there is turned. (Printed by gen_nwl1.py.). The program's sameLink at a link and what its kind uses of it: what it returns; nothing that was there is turned. (Printed by gen_nwl2.py.). -/
import Derived.Test.YtdcdfjinbieblaaGreatDoorPkCostsPipes18
import Derived.Test.YtdcdfjinbieblaaGreatDoorPkCostsPipes6
import Derived.Test.YtdcdfjinbieblaaGreatDoorPkCostsPipes17
import Derived.Test.YtdcdfjinbieblaaGreatDoorPkCostsPipes14
import Derived.Shelf.Abstract
namespace Go.Proofs.YtdcdfjinbieblaaGreatDoor
open Go Go.RowKit

theorem tfits_any (n : Int) (w : World) : Calls Tryz.prog 135 #[.int .i64 n] w fun e w' => e = .returned (.bool (inB (-1125899906842624) 1125899906842624 n)) ∧ w = w' := by
  unfold inB
  have ways : (decide (-1125899906842624 ≤ n) = true ∧ decide (n ≤ 1125899906842624) = true) ∨ (decide (-1125899906842624 ≤ n) = true ∧ decide (n ≤ 1125899906842624) = false) ∨ decide (-1125899906842624 ≤ n) = false := by
    simp only [decide_eq_true_eq, decide_eq_false_iff_not]; omega
  rcases ways with ⟨a, b⟩ | ⟨a, b⟩ | a
  · rw [a, b]
    go_enter Tryz.func135, Tryz.ntmps135
    go_wp2
    go_ret
    exact ⟨rfl, rfl⟩
  · rw [a, b]
    go_enter Tryz.func135, Tryz.ntmps135
    go_wp2
    go_ret
    exact ⟨rfl, rfl⟩
  · rw [a, Bool.false_and]
    go_enter Tryz.func135, Tryz.ntmps135
    go_wp2
    go_ret
    exact ⟨rfl, rfl⟩
set_option maxRecDepth 100000 in
set_option maxHeartbeats 4000000 in
theorem tabv_any (l : List Knt) (A : Option Addr) (cap : Nat) (w : World) (hl : KnSl w A l) : Calls Tryz.prog 93 #[.slice A l.length cap] w (RetW (.bool (vKn l)) w) := by
  have hlen : l.length ≤ 9223372036854775807 := by have := hl.1; unfold maxLen at this; omega
  have HL := hide hl
  have RN := hide (fun (n : Int) W => tfits_any n W)
  have VL := hide (fun h => vKn_len (t := l) h)
  have VB := hide (fun k hk h => vKn_bad (t := l) (k := k) hk h)
  have VA := hide (fun h => (vKn_iff (t := l)).2 h)
  generalize vKn l = v at *
  clear hl
  by_cases h0 : l.length < 1
  · have g0 : decide ((l.length : Int) < 1) = true := decide_eq_true (by omega)
    have E := hide (VL.out (.inl h0))
    go_enter Tryz.func93, Tryz.ntmps93
    go_wp2
    go_ret
    exact ⟨ret_bool E.out.symm, Below.refl _ _⟩
  have g0 : decide ((l.length : Int) < 1) = false := decide_eq_false (by omega)
  by_cases h1 : 100 < l.length
  · have g1 : decide (100 < (l.length : Int)) = true := decide_eq_true (by omega)
    have E := hide (VL.out (.inr h1))
    go_enter Tryz.func93, Tryz.ntmps93
    go_wp2
    go_ret
    exact ⟨ret_bool E.out.symm, Below.refl _ _⟩
  have g1 : decide (100 < (l.length : Int)) = false := decide_eq_false (by omega)
  go_enter Tryz.func93, Tryz.ntmps93
  go_wp2
  go_loopw [15] (fun v3 wr => ∃ k : Nat, k ≤ l.length ∧ v3 = .int .i64 (k : Int) ∧ Hid (Below w.heap.size w wr) ∧ Hid (∀ i, i < k → knB l i = true)) (fun v _ => l.length - (intOf v).toNat)
  case atStart => exact ⟨0, by omega, rfl, hide (Below.refl _ _), hide (fun _ h => by omega)⟩
  case round =>
    obtain ⟨k, hk, rfl, HB, HN⟩ := hrel
    by_cases hlt : k < l.length
    · have d1 : decide (k < l.length) = true := decide_eq_true hlt
      have g2 : (0 : Int) ≤ (k : Int) := by omega
      have g3 : (k : Int) < (l.length : Int) := by omega
      obtain ⟨b, off, rfl, hbl, hat⟩ := (HL.out.below HB.out).2 (by omega)
      obtain ⟨c0, c1⟩ := hat k hlt
      have BAD := hide (fun (h : knB l k = false) => VB.out k hlt h)
      have OK := hide (fun (h : knB l k = true) i (hik : i < k + 1) => (show knB l i = true by
        by_cases e : i = k
        · subst e; exact h
        · exact HN.out i (by omega)))
      clear VL VB VA
      by_cases k0 : k = 0
      · rw [knB_z hlt k0] at BAD OK
        have R0 := hide (fun W => RN.out l[k].x W)
        have R1 := hide (fun W => RN.out l[k].y W)
        have z0 : decide (0 < (k : Int)) = false := decide_eq_false (by omega)
        have z1 : decide (0 < k) = false := decide_eq_false (by omega)
        clear hat HN RN k0
        generalize l[k] = x at *
        have HX := hide ((Own.start wr).alloc #[.int .i64 x.x, .int .i64 x.y] 121)
        have NE : Nonempty (OwnW wr [(wr.heap.size, 121, #[.int .i64 x.x, .int .i64 x.y])]) := ⟨⟨_, HX.out⟩⟩
        have C1 := fun z : OwnW wr [(wr.heap.size, 121, #[.int .i64 x.x, .int .i64 x.y])] => z.own.r1
        generalize inB (-1125899906842624) 1125899906842624 x.x = b0 at *
        generalize inB (-1125899906842624) 1125899906842624 x.y = b1 at *
        cases b0 with
        | false =>
          have E := hide (BAD.out rfl)
          clear BAD OK
          go_wp2_with fail
          refine wp_region_own (w := wr) (L := [(wr.heap.size, 121, #[.int .i64 x.x, .int .i64 x.y])]) (by kernel_rfl) (by kernel_rfl) HX.out ?_
          repeat (go_big_quiet_step ((rename_i x; first | with_reducible exact own_same (R0.out _) | with_reducible exact own_same (R1.out _))))
          refine wpQuiet_nil ?_
          rintro _ ⟨⟨W, HX⟩, rfl⟩
          have HB2 := hide (below_via HB.out HB.out.size HX.1)
          go_wp2
          go_ret
          exact ⟨ret_bool E.out.symm, HB2.out⟩
        | true =>
          cases b1 with
          | false =>
            have E := hide (BAD.out rfl)
            clear BAD OK
            go_wp2_with fail
            refine wp_region_own (w := wr) (L := [(wr.heap.size, 121, #[.int .i64 x.x, .int .i64 x.y])]) (by kernel_rfl) (by kernel_rfl) HX.out ?_
            repeat (go_big_quiet_step ((rename_i x; first | with_reducible exact own_same (R0.out _) | with_reducible exact own_same (R1.out _))))
            refine wpQuiet_nil ?_
            rintro _ ⟨⟨W, HX⟩, rfl⟩
            have HB2 := hide (below_via HB.out HB.out.size HX.1)
            go_wp2
            go_ret
            exact ⟨ret_bool E.out.symm, HB2.out⟩
          | true =>
            have E := hide (OK.out rfl)
            clear BAD OK
            go_wp2_with fail
            refine wp_region_own (w := wr) (L := [(wr.heap.size, 121, #[.int .i64 x.x, .int .i64 x.y])]) (by kernel_rfl) (by kernel_rfl) HX.out ?_
            repeat (go_big_quiet_step ((rename_i x; first | with_reducible exact own_same (R0.out _) | with_reducible exact own_same (R1.out _))))
            refine wpQuiet_nil ?_
            rintro _ ⟨⟨W, HX⟩, rfl⟩
            have HB2 := hide (below_via HB.out HB.out.size HX.1)
            go_wp2
            go_roundw
            case rel => exact ⟨k + 1, by omega, by go_num, HB2, E⟩
            case measure => simp [intOf]; omega
      · obtain ⟨j, hj⟩ : ∃ j, k = j + 1 := ⟨k - 1, by omega⟩
        have hjl : j < l.length := by omega
        rw [knB_s hlt hjl hj] at BAD OK
        obtain ⟨p0, p1⟩ := hat j hjl
        have R0 := hide (fun W => RN.out l[k].x W)
        have R1 := hide (fun W => RN.out l[k].y W)
        have z0 : decide (0 < (k : Int)) = true := decide_eq_true (by omega)
        have z1 : decide (0 < k) = true := decide_eq_true (by omega)
        have q1 : IntKind.i64.wrap ((k : Int) - 1) = (j : Int) := by rw [IntWalk.i64_in _ (by omega)]; omega
        have i0 : (0 : Int) ≤ (j : Int) := by omega
        have i1 : (j : Int) < (l.length : Int) := by omega
        clear hat HN RN k0
        generalize l[k] = x at *
        generalize l[j] = pv at *
        clear hj
        have HX := hide ((Own.start wr).alloc #[.int .i64 x.x, .int .i64 x.y] 121)
        have NE : Nonempty (OwnW wr [(wr.heap.size, 121, #[.int .i64 x.x, .int .i64 x.y])]) := ⟨⟨_, HX.out⟩⟩
        have C1 := fun z : OwnW wr [(wr.heap.size, 121, #[.int .i64 x.x, .int .i64 x.y])] => z.own.r1
        have C2 := fun z : OwnW wr [(wr.heap.size, 121, #[.int .i64 x.x, .int .i64 x.y])] => (z.own.1.cell (p := ⟨b, off + j * 2, none⟩) hbl).trans p0
        have C3 := fun z : OwnW wr [(wr.heap.size, 121, #[.int .i64 x.x, .int .i64 x.y])] => (z.own.1.cell (p := ⟨b, off + j * 2 + 1, none⟩) hbl).trans p1
        generalize inB (-1125899906842624) 1125899906842624 x.x = b0 at *
        generalize inB (-1125899906842624) 1125899906842624 x.y = b1 at *
        have ways : (decide (x.x ≤ pv.x) = true ∧ (decide (pv.x < x.x) && decide (pv.y ≤ x.y)) = false) ∨ (decide (x.x ≤ pv.x) = false ∧ decide (x.y < pv.y) = true ∧ (decide (pv.x < x.x) && decide (pv.y ≤ x.y)) = false) ∨ (decide (x.x ≤ pv.x) = false ∧ decide (x.y < pv.y) = false ∧ (decide (pv.x < x.x) && decide (pv.y ≤ x.y)) = true) := by
          simp only [decide_eq_true_eq, decide_eq_false_iff_not, Bool.and_eq_true, Bool.and_eq_false_iff]; omega
        generalize (decide (pv.x < x.x) && decide (pv.y ≤ x.y)) = m at *
        cases b0 with
        | false =>
          clear ways
          have E := hide (BAD.out rfl)
          clear BAD OK
          go_wp2_with fail
          refine wp_region_own (w := wr) (L := [(wr.heap.size, 121, #[.int .i64 x.x, .int .i64 x.y])]) (by kernel_rfl) (by kernel_rfl) HX.out ?_
          repeat (go_big_quiet_step ((rename_i x; first | with_reducible exact own_same (R0.out _) | with_reducible exact own_same (R1.out _))))
          refine wpQuiet_nil ?_
          rintro _ ⟨⟨W, HX⟩, rfl⟩
          have HB2 := hide (below_via HB.out HB.out.size HX.1)
          go_wp2
          go_ret
          exact ⟨ret_bool E.out.symm, HB2.out⟩
        | true =>
          cases b1 with
          | false =>
            clear ways
            have E := hide (BAD.out rfl)
            clear BAD OK
            go_wp2_with fail
            refine wp_region_own (w := wr) (L := [(wr.heap.size, 121, #[.int .i64 x.x, .int .i64 x.y])]) (by kernel_rfl) (by kernel_rfl) HX.out ?_
            repeat (go_big_quiet_step ((rename_i x; first | with_reducible exact own_same (R0.out _) | with_reducible exact own_same (R1.out _))))
            refine wpQuiet_nil ?_
            rintro _ ⟨⟨W, HX⟩, rfl⟩
            have HB2 := hide (below_via HB.out HB.out.size HX.1)
            go_wp2
            go_ret
            exact ⟨ret_bool E.out.symm, HB2.out⟩
          | true =>
            rcases ways with ⟨y1, rfl⟩ | ⟨y1, y2, rfl⟩ | ⟨y1, y2, rfl⟩
            ·
              have E := hide (BAD.out rfl)
              clear BAD OK
              go_wp2_with fail
              refine wp_region_own (w := wr) (L := [(wr.heap.size, 121, #[.int .i64 x.x, .int .i64 x.y])]) (by kernel_rfl) (by kernel_rfl) HX.out ?_
              repeat (go_big_quiet_step ((rename_i x; first | with_reducible exact own_same (R0.out _) | with_reducible exact own_same (R1.out _))))
              refine wpQuiet_nil ?_
              rintro _ ⟨⟨W, HX⟩, rfl⟩
              have HB2 := hide (below_via HB.out HB.out.size HX.1)
              go_wp2
              go_ret
              exact ⟨ret_bool E.out.symm, HB2.out⟩
            ·
              have E := hide (BAD.out rfl)
              clear BAD OK
              go_wp2_with fail
              refine wp_region_own (w := wr) (L := [(wr.heap.size, 121, #[.int .i64 x.x, .int .i64 x.y])]) (by kernel_rfl) (by kernel_rfl) HX.out ?_
              repeat (go_big_quiet_step ((rename_i x; first | with_reducible exact own_same (R0.out _) | with_reducible exact own_same (R1.out _))))
              refine wpQuiet_nil ?_
              rintro _ ⟨⟨W, HX⟩, rfl⟩
              have HB2 := hide (below_via HB.out HB.out.size HX.1)
              go_wp2
              go_ret
              exact ⟨ret_bool E.out.symm, HB2.out⟩
            ·
              have E := hide (OK.out rfl)
              clear BAD OK
              go_wp2_with fail
              refine wp_region_own (w := wr) (L := [(wr.heap.size, 121, #[.int .i64 x.x, .int .i64 x.y])]) (by kernel_rfl) (by kernel_rfl) HX.out ?_
              repeat (go_big_quiet_step ((rename_i x; first | with_reducible exact own_same (R0.out _) | with_reducible exact own_same (R1.out _))))
              refine wpQuiet_nil ?_
              rintro _ ⟨⟨W, HX⟩, rfl⟩
              have HB2 := hide (below_via HB.out HB.out.size HX.1)
              go_wp2
              go_roundw
              case rel => exact ⟨k + 1, by omega, by go_num, HB2, E⟩
              case measure => simp [intOf]; omega
    · have E := hide (VA.out ⟨⟨by omega, by omega⟩, fun i hi => HN.out i (by omega)⟩)
      have d1 : decide (k < l.length) = false := decide_eq_false hlt
      go_wp2
      go_ret
      exact ⟨ret_bool E.out.symm, HB.out⟩
end Go.Proofs.YtdcdfjinbieblaaGreatDoor

namespace Go.Proofs.YtdcdfjinbieblaaGreatDoor
open Go Go.RowKit

set_option maxHeartbeats 1000000 in
theorem nwbetween_any (n l h : Int) (w : World) : Calls Tryz.prog 87 #[.int .i64 n, .int .i64 l, .int .i64 h] w fun e w' => e = .returned (.bool (inB l h n)) ∧ w = w' := by
  unfold inB
  have ways : decide (l ≤ n) = true ∨ decide (l ≤ n) = false := by cases decide (l ≤ n) <;> simp
  rcases ways with q1 | q1
  all_goals
    rw [q1]
    go_enter Tryz.func87, Tryz.ntmps87
    go_wp2
    go_ret
    exact ⟨ret_bool (by simp), rfl⟩
set_option maxHeartbeats 1000000 in
theorem nwlevel1_any (n : Int) (w : World) : Calls Tryz.prog 133 #[.int .i64 n] w (RetW (.bool (!inB (-4194304) 4194304 n)) w) := by
  have E : Hid (inB (-4194304) 4194304 n = (decide (-4194304 ≤ n) && decide (n ≤ 4194304))) := hide rfl
  have ways : (decide (n < -4194304) = true ∧ decide (-4194304 ≤ n) = false) ∨ (decide (n < -4194304) = false ∧ decide (-4194304 ≤ n) = true ∧ decide (4194304 < n) = true ∧ decide (n ≤ 4194304) = false) ∨ (decide (n < -4194304) = false ∧ decide (-4194304 ≤ n) = true ∧ decide (4194304 < n) = false ∧ decide (n ≤ 4194304) = true) := by
    simp only [decide_eq_true_eq, decide_eq_false_iff_not]; omega
  rcases ways with ⟨q1, q2⟩ | ⟨q1, q2, q3, q4⟩ | ⟨q1, q2, q3, q4⟩
  all_goals
    have E2 := hide (E.out)
    simp only [q2] at E2
    try simp only [q4] at E2
    clear q2
    go_enter Tryz.func133, Tryz.ntmps133
    go_wp2
    go_ret
    exact ⟨ret_bool (by rw [E2.out]; rfl), Below.refl _ _⟩
set_option maxHeartbeats 1000000 in
theorem nwlevel_any (l : List Int) (A : Option Addr) (cap : Nat) (w : World) (hl : IvSl w A l) : Calls Tryz.prog 88 #[.slice A l.length cap] w (RetW (.bool (l.all (inB (-4194304) 4194304))) w) := by
  have C := hide (cfIn_any 133 (fun n => !inB (-4194304) 4194304 n) l A cap w (fun d W _ _ => nwlevel1_any d W) (fun d w => enters_of Tryz.func133 (by kernel_rfl) rfl _ w) hl)
  have E : Hid ((!(l.any fun n => !inB (-4194304) 4194304 n)) = l.all (inB (-4194304) 4194304)) := hide (by rw [List.any_eq_not_all_not]; simp)
  have hlen : l.length ≤ 9223372036854775807 := by have := hl.1; unfold maxLen at this; omega
  unfold RetW at C
  clear hl
  generalize (l.any fun n => !inB (-4194304) 4194304 n) = b at *
  generalize l.all (inB (-4194304) 4194304) = b2 at *
  go_enter Tryz.func88, Tryz.ntmps88
  go_wp2_with fail
  refine C.out.mono ?_
  rintro e w' ⟨rfl, hb⟩
  go_wp2
  go_ret
  exact ⟨ret_bool E.out, hb⟩
theorem nwlevel_one (x : Int) (b cap : Nat) (t : TypeId) (w : World) (h : Blk w b t #[.int .i64 x]) : Calls Tryz.prog 88 #[.slice (some ⟨b, 0, none⟩) 1 cap] w (RetW (.bool (inB (-4194304) 4194304 x)) w) := by
  have := nwlevel_any [x] (some ⟨b, 0, none⟩) cap w (IvSl.one h)
  simpa using this
theorem nwlevel_two (x y : Int) (b cap : Nat) (t : TypeId) (w : World) (h : Blk w b t #[.int .i64 x, .int .i64 y]) : Calls Tryz.prog 88 #[.slice (some ⟨b, 0, none⟩) 2 cap] w (RetW (.bool (inB (-4194304) 4194304 x && inB (-4194304) 4194304 y)) w) := by
  have := nwlevel_any [x, y] (some ⟨b, 0, none⟩) cap w (IvSl.two h)
  simpa using this
set_option maxRecDepth 100000 in
set_option maxHeartbeats 2000000 in
theorem nwshaped_any (t : List Knt) (A : Option Addr) (cap : Nat) (d : Int) (w : World) (hl : KnSl w A t) : Calls Tryz.prog 89 #[.slice A t.length cap, .int .i64 d] w (RetW (.bool (shpB t d 1125899906842624)) w) := by
  have V := hide (fun W h => tabv_any t A cap W h)
  unfold RetW at V
  have HL := hide hl
  cases hv : vKn t with
  | false =>
    rw [hv] at V
    have E : Hid (shpB t d 1125899906842624 = false) := hide (by unfold shpB; rw [hv]; rfl)
    clear hl hv
    go_enter Tryz.func89, Tryz.ntmps89
    go_wp2_with fail
    refine (V.out _ HL.out).mono ?_
    rintro e w' ⟨rfl, hb⟩
    go_wp2
    go_ret
    exact ⟨ret_bool E.out.symm, hb⟩
  | true =>
    rw [hv] at V
    obtain ⟨n1, n2⟩ := (vKn_iff.1 hv).1
    obtain ⟨b, off, rfl, hbl, hat⟩ := hl.2 (by omega)
    obtain ⟨j, hj⟩ : ∃ j, t.length = j + 1 := ⟨t.length - 1, by omega⟩
    obtain ⟨a0, a1⟩ := hat 0 (by omega)
    obtain ⟨b0, b1⟩ := hat j (by omega)
    have e0 : t.getD 0 ⟨0, 0⟩ = t[0] := by simp [List.getD, List.getElem?_eq_getElem (show 0 < t.length by omega)]
    have e1 : t.getD (t.length - 1) ⟨0, 0⟩ = t[j] := by
      have : t.length - 1 = j := by omega
      rw [this]
      simp [List.getD, List.getElem?_eq_getElem (show j < t.length by omega)]
    have EV : Hid (shpB t d 1125899906842624 = ((decide (t[0].x = 0) && decide (t[0].y = 0)) && (decide (t[j].x = d) && decide (t[j].y ≤ 1125899906842624)))) := hide (by unfold shpB; rw [hv, e0, e1]; rfl)
    have g0 : IntKind.i64.wrap ((t.length : Int) - 1) = (j : Int) := by rw [IntWalk.i64_in _ (by omega)]; omega
    have g1 : (0 : Int) ≤ (j : Int) := by omega
    have g2 : (j : Int) < (t.length : Int) := by omega
    have g3 : (0 : Int) < (t.length : Int) := by omega
    simp only [Nat.zero_mul, Nat.add_zero] at a0 a1
    clear hat hl hv e0 e1
    generalize shpB t d 1125899906842624 = v at *
    generalize t[0] = p at *
    generalize t[j] = q at *
    clear hj
    have ways : ((⟨p.x, p.y⟩ : Knt) = ⟨0, 0⟩ ∧ q.x = d) ∨ ((⟨p.x, p.y⟩ : Knt) = ⟨0, 0⟩ ∧ (q.x == d) = false ∧ v = false) ∨ ((⟨p.x, p.y⟩ : Knt) ≠ ⟨0, 0⟩ ∧ v = false) := by
      rw [EV.out]
      by_cases h1 : p.x = 0 <;> by_cases h2 : p.y = 0 <;> by_cases h3 : q.x = d <;> simp [h1, h2, h3]
    have C1 : ∀ W, Below w.heap.size w W → W.cell? ⟨b, off, none⟩ = some (.int .i64 p.x) := fun W h => (h.cell (p := ⟨b, off, none⟩) hbl).trans a0
    have C2 : ∀ W, Below w.heap.size w W → W.cell? ⟨b, off + 1, none⟩ = some (.int .i64 p.y) := fun W h => (h.cell (p := ⟨b, off + 1, none⟩) hbl).trans a1
    have C3 : ∀ W, Below w.heap.size w W → W.cell? ⟨b, off + j * 2, none⟩ = some (.int .i64 q.x) := fun W h => (h.cell (p := ⟨b, off + j * 2, none⟩) hbl).trans b0
    have C4 : ∀ W, Below w.heap.size w W → W.cell? ⟨b, off + j * 2 + 1, none⟩ = some (.int .i64 q.y) := fun W h => (h.cell (p := ⟨b, off + j * 2 + 1, none⟩) hbl).trans b1
    replace C1 := hide C1
    replace C2 := hide C2
    replace C3 := hide C3
    replace C4 := hide C4
    clear a0 a1 b0 b1
    have STEP : ∀ (e : Ending) (w' : World), Below w.heap.size w w' → w'.cell? ⟨b, off, none⟩ = some (.int .i64 p.x) ∧ w'.cell? ⟨b, off + 1, none⟩ = some (.int .i64 p.y) ∧ w'.cell? ⟨b, off + j * 2, none⟩ = some (.int .i64 q.x) ∧ w'.cell? ⟨b, off + j * 2 + 1, none⟩ = some (.int .i64 q.y) := fun e w' h => ⟨C1.out w' h, C2.out w' h, C3.out w' h, C4.out w' h⟩
    replace STEP := hide STEP
    rcases ways with ⟨hp, hx⟩ | ⟨hp, hx, rfl⟩ | ⟨hp, rfl⟩
    · simp only [Knt.mk.injEq] at hp
      obtain ⟨hp1, hp2⟩ := hp
      rw [hp1, hp2] at STEP
      have EV2 : Hid (v = decide (q.y ≤ 1125899906842624)) := hide (by rw [EV.out, hp1, hp2, hx]; simp)
      clear EV C1 C2 C3 C4 hp1 hp2
      subst hx
      go_enter Tryz.func89, Tryz.ntmps89
      go_wp2_with fail
      refine (V.out _ HL.out).mono ?_
      rintro e w' ⟨rfl, hb⟩
      obtain ⟨c1, c2, c3, c4⟩ := STEP.out (.returned (.bool true)) w' hb
      have X := (Own.start w').alloc #[.int .i64 q.x, .int .i64 q.y] 121
      have hr := X.r1
      replace c1 := (X.1.cell (p := ⟨b, off, none⟩) (Nat.lt_of_lt_of_le hbl hb.size)).trans c1
      replace c2 := (X.1.cell (p := ⟨b, off + 1, none⟩) (Nat.lt_of_lt_of_le hbl hb.size)).trans c2
      have HB := hide (below_via hb hb.size X.1)
      clear hb X
      go_wp2
      go_ret
      exact ⟨ret_bool EV2.out.symm, HB.out⟩
    · simp only [Knt.mk.injEq] at hp
      obtain ⟨hp1, hp2⟩ := hp
      rw [hp1, hp2] at STEP
      clear EV C1 C2 C3 C4 hp1 hp2
      go_enter Tryz.func89, Tryz.ntmps89
      go_wp2_with fail
      refine (V.out _ HL.out).mono ?_
      rintro e w' ⟨rfl, hb⟩
      obtain ⟨c1, c2, c3, c4⟩ := STEP.out (.returned (.bool true)) w' hb
      have X := (Own.start w').alloc #[.int .i64 q.x, .int .i64 q.y] 121
      have hr := X.r1
      replace c1 := (X.1.cell (p := ⟨b, off, none⟩) (Nat.lt_of_lt_of_le hbl hb.size)).trans c1
      replace c2 := (X.1.cell (p := ⟨b, off + 1, none⟩) (Nat.lt_of_lt_of_le hbl hb.size)).trans c2
      have HB := hide (below_via hb hb.size X.1)
      clear hb X
      go_wp2
      go_ret
      exact ⟨ret_bool rfl, HB.out⟩
    · have hne : (p.x == 0 && p.y == 0) = false := by
        simp only [ne_eq, Knt.mk.injEq] at hp
        by_cases h1 : p.x = 0 <;> by_cases h2 : p.y = 0 <;> simp [h1, h2] at hp ⊢
      have hne2 : ((p.x == 0) = false) ∨ ((p.x == 0) = true ∧ (p.y == 0) = false) := by
        by_cases h1 : p.x = 0 <;> by_cases h2 : p.y = 0 <;> simp [h1, h2] at hne ⊢
      clear hp hne EV C1 C2 C3 C4
      rcases hne2 with u1 | ⟨u1, u2⟩
      all_goals
        go_enter Tryz.func89, Tryz.ntmps89
        go_wp2_with fail
        refine (V.out _ HL.out).mono ?_
        rintro e w' ⟨rfl, hb⟩
        obtain ⟨c1, c2, c3, c4⟩ := STEP.out (.returned (.bool true)) w' hb
        have X := (Own.start w').alloc #[.int .i64 q.x, .int .i64 q.y] 121
        have hr := X.r1
        replace c1 := (X.1.cell (p := ⟨b, off, none⟩) (Nat.lt_of_lt_of_le hbl hb.size)).trans c1
        replace c2 := (X.1.cell (p := ⟨b, off + 1, none⟩) (Nat.lt_of_lt_of_le hbl hb.size)).trans c2
        have HB := hide (below_via hb hb.size X.1)
        clear hb X
        go_wp2
        go_ret
        exact ⟨ret_bool rfl, HB.out⟩
end Go.Proofs.YtdcdfjinbieblaaGreatDoor

namespace Go.Proofs.YtdcdfjinbieblaaGreatDoor
open Go Go.RowKit

set_option maxRecDepth 100000 in
set_option maxHeartbeats 1000000 in
theorem eqKn_any (l : List Knt) (A B : Option Addr) (cap cap' : Nat) (w : World) (hl : KnSl w A l) (hm : KnSl w B l) :
    Calls Tryz.prog 134 #[.slice A l.length cap, .slice B l.length cap'] w (RetW (.bool true) w) := by
  have hlen : l.length ≤ 9223372036854775807 := by have := hl.1; unfold maxLen at this; omega
  have H := hide hl
  have H' := hide hm
  clear hl hm
  go_enter Tryz.func134, Tryz.ntmps134
  go_wp2
  go_loopw [13] (fun v wr => ∃ k : Nat, k ≤ l.length ∧ v = .int .i64 k ∧ Below w.heap.size w wr) (fun v _ => l.length - (intOf v).toNat)
  case atStart => exact ⟨0, Nat.zero_le _, rfl, Below.refl _ _⟩
  case round =>
    obtain ⟨k, hk, rfl, hb⟩ := hrel
    by_cases hlt : k < l.length
    · obtain ⟨b, off, rfl, hbl, hat⟩ := (H.out.below hb).2 (by omega)
      obtain ⟨b', off', rfl, hbl', hat'⟩ := (H'.out.below hb).2 (by omega)
      obtain ⟨c0, c1⟩ := hat k hlt
      obtain ⟨d0, d1⟩ := hat' k hlt
      have g0 : (0 : Int) ≤ (k : Int) := by omega
      have g1 : (k : Int) < (l.length : Int) := by omega
      clear hat hat'
      generalize l[k] = c at *
      have HB := hide hb
      clear hb
      go_wp2
      go_quiet (fail)
      go_wp2
      go_roundw
      case rel => exact ⟨k + 1, by omega, by go_num, below_drewN HB.out _⟩
      case measure => simp [intOf]; omega
    · have HB := hide hb
      clear hb
      go_wp2
      go_ret
      exact ⟨rfl, HB.out⟩
set_option maxHeartbeats 1000000 in
theorem eqKn_ne (l : List Knt) (A B : Option Addr) (cap cap' : Nat) (w : World) (hlen : l.length ≤ 9223372036854775807) (h : (l.length == 0) = false) :
    Calls Tryz.prog 134 #[.slice A l.length cap, .slice B 0 cap'] w (RetW (.bool false) w) := by
  have h2 : ((l.length : Int) == 0) = false := by simpa using h
  have h3 : decide (l.length = 0) = false := by simpa using h
  have h4 : l.length ≠ 0 := by simpa using h
  have h5 : ¬ l = [] := by intro e; subst e; simp at h4
  go_enter Tryz.func134, Tryz.ntmps134
  go_wp2
  go_ret
  exact ⟨rfl, Below.refl _ _⟩
/-- of a link what its kind uses -/
def plnL (l : Lnk) : Lnk := ⟨l.nm, l.fr, l.tn, l.kd, if l.kd = 1 then l.le else 0, l.up, if l.kd = 1 ∨ l.kd = 4 then l.dn else 0, if l.kd = 1 then l.se else ⟨#[]⟩, if l.kd = 2 ∨ l.kd = 3 then l.wi else 0, if l.kd = 3 then l.he else 0, if l.kd = 4 then l.cu else ⟨[], none, 0⟩⟩
set_option maxRecDepth 100000 in
set_option maxHeartbeats 2000000 in
theorem nwplain_1 (l : Lnk) (w : World) (hk : l.kd = 1) : Calls Tryz.prog 92 #[.agg #[.string l.nm, .string l.fr, .string l.tn, .int .i64 l.kd, .int .i64 l.le, .int .i64 l.up, .int .i64 l.dn, .string l.se, .int .i64 l.wi, .int .i64 l.he, .slice l.cu.A l.cu.l.length l.cu.c]] w (RetW (.agg #[.string l.nm, .string l.fr, .string l.tn, .int .i64 l.kd, .int .i64 l.le, .int .i64 l.up, .int .i64 l.dn, .string l.se, .int .i64 0, .int .i64 0, .slice none 0 0]) w) := by
  rw [hk]
  clear hk
  have X := (((Own.start w).alloc #[.string l.nm, .string l.fr, .string l.tn, .int .i64 1, .int .i64 l.le, .int .i64 l.up, .int .i64 l.dn, .string l.se, .int .i64 l.wi, .int .i64 l.he, .slice l.cu.A l.cu.l.length l.cu.c] 50).alloc #[.string l.nm, .string l.fr, .string l.tn, .int .i64 1, .int .i64 l.le, .int .i64 l.up, .int .i64 l.dn, .string l.se, .int .i64 0, .int .i64 0, .slice none 0 0] 50).alloc #[.string l.nm, .string l.fr, .string l.tn, .int .i64 1, .int .i64 l.le, .int .i64 l.up, .int .i64 l.dn, .string l.se, .int .i64 0, .int .i64 0, .slice none 0 0] 50
  simp only [World.size_alloc] at X
  have hr := X.r3
  have XB := hide X.1
  clear X
  go_enter Tryz.func92, Tryz.ntmps92
  go_wp2
  go_region
  all_goals go_wp2
  all_goals exact bodyPost_ret (v := .agg #[.string l.nm, .string l.fr, .string l.tn, .int .i64 1, .int .i64 l.le, .int .i64 l.up, .int .i64 l.dn, .string l.se, .int .i64 0, .int .i64 0, .slice none 0 0]) (by simp [results, Tryz.results92, go_sem]) rfl ⟨rfl, by have HX := XB.out; have hz := HX.size; go_grown⟩
set_option maxRecDepth 100000 in
set_option maxHeartbeats 2000000 in
theorem nwplain_2 (l : Lnk) (w : World) (hk : l.kd = 2) : Calls Tryz.prog 92 #[.agg #[.string l.nm, .string l.fr, .string l.tn, .int .i64 l.kd, .int .i64 l.le, .int .i64 l.up, .int .i64 l.dn, .string l.se, .int .i64 l.wi, .int .i64 l.he, .slice l.cu.A l.cu.l.length l.cu.c]] w (RetW (.agg #[.string l.nm, .string l.fr, .string l.tn, .int .i64 l.kd, .int .i64 0, .int .i64 l.up, .int .i64 0, .string ⟨#[]⟩, .int .i64 l.wi, .int .i64 0, .slice none 0 0]) w) := by
  rw [hk]
  clear hk
  have X := (((Own.start w).alloc #[.string l.nm, .string l.fr, .string l.tn, .int .i64 2, .int .i64 l.le, .int .i64 l.up, .int .i64 l.dn, .string l.se, .int .i64 l.wi, .int .i64 l.he, .slice l.cu.A l.cu.l.length l.cu.c] 50).alloc #[.string l.nm, .string l.fr, .string l.tn, .int .i64 2, .int .i64 0, .int .i64 l.up, .int .i64 0, .string ⟨#[]⟩, .int .i64 l.wi, .int .i64 0, .slice none 0 0] 50).alloc #[.string l.nm, .string l.fr, .string l.tn, .int .i64 2, .int .i64 0, .int .i64 l.up, .int .i64 0, .string ⟨#[]⟩, .int .i64 l.wi, .int .i64 0, .slice none 0 0] 50
  simp only [World.size_alloc] at X
  have hr := X.r3
  have XB := hide X.1
  clear X
  go_enter Tryz.func92, Tryz.ntmps92
  go_wp2
  all_goals exact bodyPost_ret (v := .agg #[.string l.nm, .string l.fr, .string l.tn, .int .i64 2, .int .i64 0, .int .i64 l.up, .int .i64 0, .string ⟨#[]⟩, .int .i64 l.wi, .int .i64 0, .slice none 0 0]) (by simp [results, Tryz.results92, go_sem]) rfl ⟨rfl, by have HX := XB.out; have hz := HX.size; go_grown⟩
set_option maxRecDepth 100000 in
set_option maxHeartbeats 2000000 in
theorem nwplain_3 (l : Lnk) (w : World) (hk : l.kd = 3) : Calls Tryz.prog 92 #[.agg #[.string l.nm, .string l.fr, .string l.tn, .int .i64 l.kd, .int .i64 l.le, .int .i64 l.up, .int .i64 l.dn, .string l.se, .int .i64 l.wi, .int .i64 l.he, .slice l.cu.A l.cu.l.length l.cu.c]] w (RetW (.agg #[.string l.nm, .string l.fr, .string l.tn, .int .i64 l.kd, .int .i64 0, .int .i64 l.up, .int .i64 0, .string ⟨#[]⟩, .int .i64 l.wi, .int .i64 l.he, .slice none 0 0]) w) := by
  rw [hk]
  clear hk
  have X := (((Own.start w).alloc #[.string l.nm, .string l.fr, .string l.tn, .int .i64 3, .int .i64 l.le, .int .i64 l.up, .int .i64 l.dn, .string l.se, .int .i64 l.wi, .int .i64 l.he, .slice l.cu.A l.cu.l.length l.cu.c] 50).alloc #[.string l.nm, .string l.fr, .string l.tn, .int .i64 3, .int .i64 0, .int .i64 l.up, .int .i64 0, .string ⟨#[]⟩, .int .i64 l.wi, .int .i64 l.he, .slice none 0 0] 50).alloc #[.string l.nm, .string l.fr, .string l.tn, .int .i64 3, .int .i64 0, .int .i64 l.up, .int .i64 0, .string ⟨#[]⟩, .int .i64 l.wi, .int .i64 l.he, .slice none 0 0] 50
  simp only [World.size_alloc] at X
  have hr := X.r3
  have XB := hide X.1
  clear X
  go_enter Tryz.func92, Tryz.ntmps92
  go_wp2
  go_region
  all_goals go_wp2
  all_goals exact bodyPost_ret (v := .agg #[.string l.nm, .string l.fr, .string l.tn, .int .i64 3, .int .i64 0, .int .i64 l.up, .int .i64 0, .string ⟨#[]⟩, .int .i64 l.wi, .int .i64 l.he, .slice none 0 0]) (by simp [results, Tryz.results92, go_sem]) rfl ⟨rfl, by have HX := XB.out; have hz := HX.size; go_grown⟩
set_option maxRecDepth 100000 in
set_option maxHeartbeats 2000000 in
theorem nwplain_4 (l : Lnk) (w : World) (hk : l.kd = 4) : Calls Tryz.prog 92 #[.agg #[.string l.nm, .string l.fr, .string l.tn, .int .i64 l.kd, .int .i64 l.le, .int .i64 l.up, .int .i64 l.dn, .string l.se, .int .i64 l.wi, .int .i64 l.he, .slice l.cu.A l.cu.l.length l.cu.c]] w (RetW (.agg #[.string l.nm, .string l.fr, .string l.tn, .int .i64 l.kd, .int .i64 0, .int .i64 l.up, .int .i64 l.dn, .string ⟨#[]⟩, .int .i64 0, .int .i64 0, .slice l.cu.A l.cu.l.length l.cu.c]) w) := by
  rw [hk]
  clear hk
  have X := (((Own.start w).alloc #[.string l.nm, .string l.fr, .string l.tn, .int .i64 4, .int .i64 l.le, .int .i64 l.up, .int .i64 l.dn, .string l.se, .int .i64 l.wi, .int .i64 l.he, .slice l.cu.A l.cu.l.length l.cu.c] 50).alloc #[.string l.nm, .string l.fr, .string l.tn, .int .i64 4, .int .i64 0, .int .i64 l.up, .int .i64 l.dn, .string ⟨#[]⟩, .int .i64 0, .int .i64 0, .slice l.cu.A l.cu.l.length l.cu.c] 50).alloc #[.string l.nm, .string l.fr, .string l.tn, .int .i64 4, .int .i64 0, .int .i64 l.up, .int .i64 l.dn, .string ⟨#[]⟩, .int .i64 0, .int .i64 0, .slice l.cu.A l.cu.l.length l.cu.c] 50
  simp only [World.size_alloc] at X
  have hr := X.r3
  have XB := hide X.1
  clear X
  go_enter Tryz.func92, Tryz.ntmps92
  go_wp2
  go_region
  all_goals go_wp2
  all_goals exact bodyPost_ret (v := .agg #[.string l.nm, .string l.fr, .string l.tn, .int .i64 4, .int .i64 0, .int .i64 l.up, .int .i64 l.dn, .string ⟨#[]⟩, .int .i64 0, .int .i64 0, .slice l.cu.A l.cu.l.length l.cu.c]) (by simp [results, Tryz.results92, go_sem]) rfl ⟨rfl, by have HX := XB.out; have hz := HX.size; go_grown⟩
set_option maxRecDepth 100000 in
set_option maxHeartbeats 2000000 in
theorem nwplain_o (l : Lnk) (w : World) (k1 : (l.kd == 1) = false) (k2 : (l.kd == 2) = false) (k3 : (l.kd == 3) = false) (k4 : (l.kd == 4) = false) : Calls Tryz.prog 92 #[.agg #[.string l.nm, .string l.fr, .string l.tn, .int .i64 l.kd, .int .i64 l.le, .int .i64 l.up, .int .i64 l.dn, .string l.se, .int .i64 l.wi, .int .i64 l.he, .slice l.cu.A l.cu.l.length l.cu.c]] w (RetW (.agg #[.string l.nm, .string l.fr, .string l.tn, .int .i64 l.kd, .int .i64 0, .int .i64 l.up, .int .i64 0, .string ⟨#[]⟩, .int .i64 0, .int .i64 0, .slice none 0 0]) w) := by
  have X := (((Own.start w).alloc #[.string l.nm, .string l.fr, .string l.tn, .int .i64 l.kd, .int .i64 l.le, .int .i64 l.up, .int .i64 l.dn, .string l.se, .int .i64 l.wi, .int .i64 l.he, .slice l.cu.A l.cu.l.length l.cu.c] 50).alloc #[.string l.nm, .string l.fr, .string l.tn, .int .i64 l.kd, .int .i64 0, .int .i64 l.up, .int .i64 0, .string ⟨#[]⟩, .int .i64 0, .int .i64 0, .slice none 0 0] 50).alloc #[.string l.nm, .string l.fr, .string l.tn, .int .i64 l.kd, .int .i64 0, .int .i64 l.up, .int .i64 0, .string ⟨#[]⟩, .int .i64 0, .int .i64 0, .slice none 0 0] 50
  simp only [World.size_alloc] at X
  have hr := X.r3
  have XB := hide X.1
  clear X
  go_enter Tryz.func92, Tryz.ntmps92
  go_wp2
  all_goals exact bodyPost_ret (v := .agg #[.string l.nm, .string l.fr, .string l.tn, .int .i64 l.kd, .int .i64 0, .int .i64 l.up, .int .i64 0, .string ⟨#[]⟩, .int .i64 0, .int .i64 0, .slice none 0 0]) (by simp [results, Tryz.results92, go_sem]) rfl ⟨rfl, by have HX := XB.out; have hz := HX.size; go_grown⟩
end Go.Proofs.YtdcdfjinbieblaaGreatDoor

namespace Go.Proofs.YtdcdfjinbieblaaGreatDoor
open Go Go.RowKit

set_option maxRecDepth 100000 in
set_option maxHeartbeats 4000000 in
theorem nwsame_any (l : Lnk) (le dn wi he : Int) (se : ByteArray) (B : Option Addr) (m c : Nat) (q : Bool) (w : World) (hq : ∀ W, Below w.heap.size w W → Calls Tryz.prog 134 #[.slice l.cu.A l.cu.l.length l.cu.c, .slice B m c] W (RetW (.bool q) W)) :
    Calls Tryz.prog 91 #[.agg #[.string l.nm, .string l.fr, .string l.tn, .int .i64 l.kd, .int .i64 l.le, .int .i64 l.up, .int .i64 l.dn, .string l.se, .int .i64 l.wi, .int .i64 l.he, .slice l.cu.A l.cu.l.length l.cu.c], .agg #[.string l.nm, .string l.fr, .string l.tn, .int .i64 l.kd, .int .i64 le, .int .i64 l.up, .int .i64 dn, .string se, .int .i64 wi, .int .i64 he, .slice B m c]] w (RetW (.bool (((((l.le == le) && (l.dn == dn)) && (l.se.toList == se.toList)) && (l.wi == wi)) && (l.he == he) && q)) w) := by
  have EQ := hide hq
  unfold RetW at EQ
  have X := ((Own.start w).alloc #[.string l.nm, .string l.fr, .string l.tn, .int .i64 l.kd, .int .i64 l.le, .int .i64 l.up, .int .i64 l.dn, .string l.se, .int .i64 l.wi, .int .i64 l.he, .slice l.cu.A l.cu.l.length l.cu.c] 50).alloc #[.string l.nm, .string l.fr, .string l.tn, .int .i64 l.kd, .int .i64 le, .int .i64 l.up, .int .i64 dn, .string se, .int .i64 wi, .int .i64 he, .slice B m c] 50
  simp only [World.size_alloc] at X
  have hr := X.r2
  have XB := hide X
  have EQW := hide (EQ.out _ X.1)
  clear X hq EQ
  have ways : (l.le == le) = false ∨ ((l.le == le) = true ∧ (l.dn == dn) = false) ∨ ((l.le == le) = true ∧ (l.dn == dn) = true ∧ (l.se.toList == se.toList) = false) ∨
      ((l.le == le) = true ∧ (l.dn == dn) = true ∧ (l.se.toList == se.toList) = true ∧ (l.wi == wi) = false) ∨ ((l.le == le) = true ∧ (l.dn == dn) = true ∧ (l.se.toList == se.toList) = true ∧ (l.wi == wi) = true ∧ (l.he == he) = false) ∨
      ((l.le == le) = true ∧ (l.dn == dn) = true ∧ (l.se.toList == se.toList) = true ∧ (l.wi == wi) = true ∧ (l.he == he) = true) := by
    cases (l.le == le) <;> cases (l.dn == dn) <;> cases (l.se.toList == se.toList) <;> cases (l.wi == wi) <;> cases (l.he == he) <;> simp
  rcases ways with y1 | ⟨y1, y2⟩ | ⟨y1, y2, y3⟩ | ⟨y1, y2, y3, y4⟩ | ⟨y1, y2, y3, y4, y5⟩ | ⟨y1, y2, y3, y4, y5⟩
  · have E : Hid ((((((l.le == le) && (l.dn == dn)) && (l.se.toList == se.toList)) && (l.wi == wi)) && (l.he == he) && q) = false) := hide (by simp only [y1]; simp)
    generalize (((((l.le == le) && (l.dn == dn)) && (l.se.toList == se.toList)) && (l.wi == wi)) && (l.he == he) && q) = v at *
    clear EQW
    go_enter Tryz.func91, Tryz.ntmps91
    go_wp2
    go_ret
    exact ⟨ret_bool E.out.symm, XB.out.1⟩
  · have E : Hid ((((((l.le == le) && (l.dn == dn)) && (l.se.toList == se.toList)) && (l.wi == wi)) && (l.he == he) && q) = false) := hide (by simp only [y1, y2]; simp)
    generalize (((((l.le == le) && (l.dn == dn)) && (l.se.toList == se.toList)) && (l.wi == wi)) && (l.he == he) && q) = v at *
    clear EQW
    go_enter Tryz.func91, Tryz.ntmps91
    go_wp2
    go_ret
    exact ⟨ret_bool E.out.symm, XB.out.1⟩
  · have E : Hid ((((((l.le == le) && (l.dn == dn)) && (l.se.toList == se.toList)) && (l.wi == wi)) && (l.he == he) && q) = false) := hide (by simp only [y1, y2, y3]; simp)
    generalize (((((l.le == le) && (l.dn == dn)) && (l.se.toList == se.toList)) && (l.wi == wi)) && (l.he == he) && q) = v at *
    clear EQW
    go_enter Tryz.func91, Tryz.ntmps91
    go_wp2
    go_ret
    exact ⟨ret_bool E.out.symm, XB.out.1⟩
  · have E : Hid ((((((l.le == le) && (l.dn == dn)) && (l.se.toList == se.toList)) && (l.wi == wi)) && (l.he == he) && q) = false) := hide (by simp only [y1, y2, y3, y4]; simp)
    generalize (((((l.le == le) && (l.dn == dn)) && (l.se.toList == se.toList)) && (l.wi == wi)) && (l.he == he) && q) = v at *
    clear EQW
    go_enter Tryz.func91, Tryz.ntmps91
    go_wp2
    go_ret
    exact ⟨ret_bool E.out.symm, XB.out.1⟩
  · have E : Hid ((((((l.le == le) && (l.dn == dn)) && (l.se.toList == se.toList)) && (l.wi == wi)) && (l.he == he) && q) = false) := hide (by simp only [y1, y2, y3, y4, y5]; simp)
    generalize (((((l.le == le) && (l.dn == dn)) && (l.se.toList == se.toList)) && (l.wi == wi)) && (l.he == he) && q) = v at *
    clear EQW
    go_enter Tryz.func91, Tryz.ntmps91
    go_wp2
    go_ret
    exact ⟨ret_bool E.out.symm, XB.out.1⟩
  · have E : Hid ((((((l.le == le) && (l.dn == dn)) && (l.se.toList == se.toList)) && (l.wi == wi)) && (l.he == he) && q) = q) := hide (by simp only [y1, y2, y3, y4, y5]; simp)
    generalize (((((l.le == le) && (l.dn == dn)) && (l.se.toList == se.toList)) && (l.wi == wi)) && (l.he == he) && q) = v at *
    go_enter Tryz.func91, Tryz.ntmps91
    go_wp2_with fail
    refine EQW.out.mono ?_
    rintro e w' ⟨rfl, hb⟩
    replace XB := hide (XB.out.to hb)
    clear hb
    go_wp2
    go_ret
    exact ⟨ret_bool E.out.symm, XB.out.1⟩
/-- a link has nothing that its kind does not use -/
def samB (l : Lnk) : Bool := (((((l.le == (plnL l).le) && (l.dn == (plnL l).dn)) && (l.se.toList == (plnL l).se.toList)) && (l.wi == (plnL l).wi)) && (l.he == (plnL l).he) && (decide (l.kd = 4) || decide (l.cu.l.length = 0)))
theorem plnL_1 {l : Lnk} (h : l.kd = 1) : plnL l = ⟨l.nm, l.fr, l.tn, l.kd, l.le, l.up, l.dn, l.se, 0, 0, ⟨[], none, 0⟩⟩ := by unfold plnL; simp [h]
theorem plnL_2 {l : Lnk} (h : l.kd = 2) : plnL l = ⟨l.nm, l.fr, l.tn, l.kd, 0, l.up, 0, ⟨#[]⟩, l.wi, 0, ⟨[], none, 0⟩⟩ := by unfold plnL; simp [h]
theorem plnL_3 {l : Lnk} (h : l.kd = 3) : plnL l = ⟨l.nm, l.fr, l.tn, l.kd, 0, l.up, 0, ⟨#[]⟩, l.wi, l.he, ⟨[], none, 0⟩⟩ := by unfold plnL; simp [h]
theorem plnL_4 {l : Lnk} (h : l.kd = 4) : plnL l = ⟨l.nm, l.fr, l.tn, l.kd, 0, l.up, l.dn, ⟨#[]⟩, 0, 0, l.cu⟩ := by unfold plnL; simp [h]
theorem plnL_o {l : Lnk} (k1 : ¬ l.kd = 1) (k2 : ¬ l.kd = 2) (k3 : ¬ l.kd = 3) (k4 : ¬ l.kd = 4) : plnL l = ⟨l.nm, l.fr, l.tn, l.kd, 0, l.up, 0, ⟨#[]⟩, 0, 0, ⟨[], none, 0⟩⟩ := by unfold plnL; simp [k1, k2, k3, k4]
theorem nwplain_any (l : Lnk) (w : World) : Calls Tryz.prog 92 #[l.val] w (RetW (plnL l).val w) := by
  by_cases k1 : l.kd = 1
  · rw [plnL_1 k1]; exact nwplain_1 l w k1
  · by_cases k2 : l.kd = 2
    · rw [plnL_2 k2]; exact nwplain_2 l w k2
    · by_cases k3 : l.kd = 3
      · rw [plnL_3 k3]; exact nwplain_3 l w k3
      · by_cases k4 : l.kd = 4
        · rw [plnL_4 k4]; exact nwplain_4 l w k4
        · rw [plnL_o k1 k2 k3 k4]; exact nwplain_o l w (by simpa using k1) (by simpa using k2) (by simpa using k3) (by simpa using k4)
theorem plnL_cu {l : Lnk} (h : ¬ l.kd = 4) : (plnL l).cu = ⟨[], none, 0⟩ := by unfold plnL; simp [h]
theorem plnL_val (l : Lnk) : (plnL l).val = .agg #[.string l.nm, .string l.fr, .string l.tn, .int .i64 l.kd, .int .i64 (plnL l).le, .int .i64 l.up, .int .i64 (plnL l).dn, .string (plnL l).se, .int .i64 (plnL l).wi, .int .i64 (plnL l).he, .slice (plnL l).cu.A (plnL l).cu.l.length (plnL l).cu.c] := rfl
theorem nwsamB_any (l : Lnk) (w : World) (hl : KnSl w l.cu.A l.cu.l) : Calls Tryz.prog 91 #[l.val, (plnL l).val] w (RetW (.bool (samB l)) w) := by
  have hlen : l.cu.l.length ≤ 9223372036854775807 := by have := hl.1; unfold maxLen at this; omega
  rw [plnL_val]
  refine nwsame_any l (plnL l).le (plnL l).dn (plnL l).wi (plnL l).he (plnL l).se (plnL l).cu.A (plnL l).cu.l.length (plnL l).cu.c (decide (l.kd = 4) || decide (l.cu.l.length = 0)) w (fun W hb => ?_)
  by_cases k4 : l.kd = 4
  · rw [plnL_4 k4, decide_eq_true k4, Bool.true_or]
    exact eqKn_any l.cu.l l.cu.A l.cu.A l.cu.c l.cu.c W (hl.below hb) (hl.below hb)
  · rw [plnL_cu k4, decide_eq_false k4, Bool.false_or]
    by_cases h0 : l.cu.l.length = 0
    · have e0 : l.cu.l = [] := List.eq_nil_of_length_eq_zero h0
      have h := eqKn_any [] l.cu.A none l.cu.c 0 W (by have := hl.below hb; rwa [e0] at this) ⟨by simp, fun h => by simp at h⟩
      rw [decide_eq_true h0, h0]
      exact h
    · rw [decide_eq_false h0]
      exact eqKn_ne l.cu.l l.cu.A none l.cu.c 0 W hlen (by simpa using h0)
end Go.Proofs.YtdcdfjinbieblaaGreatDoor
