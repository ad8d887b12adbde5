/- Parts of one proof, joined: The program's rightLink: what it returns; nothing that was there is turned. (Printed by gen_nwl3.py.). A right link, said in two ways; rightLink as one contract. (Printed by gen_nwl3.py.). The program's rightNode: what it returns; nothing that was there is turned. (Printed by gen_nwn.py.). The program's node, link, Valid of networks: what each returns; nothing that was there is turned. (Printed by gen_nwv.py.). -/
import Derived.Test.YtdcdfjinbieblaaGreatDoorPkCostsPipes19
import Derived.Deep.DeepCutAuto
import Derived.Deep.RegionWith
import Derived.Test.YtdcdfjinbieblaaGreatDoorPkCostsPipes18
import Derived.Test.YtdcdfjinbieblaaGreatDoorPkCostsPipes16
namespace Go.Proofs.YtdcdfjinbieblaaGreatDoor
open Go Go.RowKit

theorem Own.b1 {w W : World} {b : Nat} {t : TypeId} {c : Array Value} {L : List (Nat × TypeId × Array Value)} (h : Own w W ((b, t, c) :: L)) : Blk W b t c := h.2 (b, t, c) (List.mem_cons_self ..)
set_option maxHeartbeats 1000000 in
theorem nwlink1_any (d : Knt) (w : World) : Calls Tryz.prog 95 #[d.val] w (RetW (.bool (!inB 0 4194304 d.x || !inB 0 1099511627776 d.y)) w) := by
  have B1 := hide (fun W => nwbetween_any d.x 0 4194304 W)
  have B2 := hide (fun W => nwbetween_any d.y 0 1099511627776 W)
  have X := (Own.start w).alloc #[.int .i64 d.x, .int .i64 d.y] 121
  have hr := X.r1
  generalize inB 0 4194304 d.x = b1 at *
  generalize inB 0 1099511627776 d.y = b2 at *
  cases b1
  · go_enter Tryz.func95, Tryz.ntmps95
    go_wp2_with fail
    refine (B1.out _).mono ?_
    rintro e w' ⟨rfl, rfl⟩
    go_wp2
    go_ret
    exact ⟨ret_bool (by simp), X.1⟩
  · go_enter Tryz.func95, Tryz.ntmps95
    go_wp2_with fail
    refine (B1.out _).mono ?_
    rintro e w' ⟨rfl, rfl⟩
    go_wp2_with fail
    refine (B2.out _).mono ?_
    rintro e w' ⟨rfl, rfl⟩
    go_wp2
    go_ret
    exact ⟨ret_bool (by simp), X.1⟩
theorem nwcont_any (l : List Knt) (A : Option Addr) (cap : Nat) (w : World) (hl : KnSl w A l) : Calls Tryz.prog 94 #[.slice A l.length cap, .func (.func 95) #[] #[]] w (RetW (.bool (l.any fun d => !inB 0 4194304 d.x || !inB 0 1099511627776 d.y)) w) :=
  cfKn_any 95 (fun d => !inB 0 4194304 d.x || !inB 0 1099511627776 d.y) l A cap w (fun d W _ _ => nwlink1_any d W) (fun d w => enters_of Tryz.func95 (by kernel_rfl) rfl _ w) hl
/-- what a link of a kind must be -/
def lkK (l : Lnk) : Bool :=
  if l.kd = 1 then (inB 1 16777216 l.le && inB (-4194304) 4194304 l.dn) && nameB l.se.data.toList
  else if l.kd = 2 then inB 1 1048576 l.wi
  else if l.kd = 3 then inB 1 32768 l.wi && inB 1 32768 l.he
  else if l.kd = 4 then ((inB (-4194304) 4194304 l.dn && decide (l.dn < l.up)) && vKn l.cu.l) && !(l.cu.l.any fun d => !inB 0 4194304 d.x || !inB 0 1099511627776 d.y)
  else false
set_option maxRecDepth 100000 in
set_option maxHeartbeats 4000000 in
theorem nwlink_early (l : Lnk) (w : World) (h1 : l.nm.size ≤ maxLen ∧ l.fr.size ≤ maxLen ∧ l.tn.size ≤ maxLen ∧ l.se.size ≤ maxLen) (hB : (((nameB l.nm.data.toList && nameB l.fr.data.toList) && nameB l.tn.data.toList) && !(l.fr.toList == l.tn.toList)) = false) : Calls Tryz.prog 52 #[.agg #[.string l.nm, .string l.fr, .string l.tn, .int .i64 l.kd, .int .i64 l.le, .int .i64 l.up, .int .i64 l.dn, .string l.se, .int .i64 l.wi, .int .i64 l.he, .slice l.cu.A l.cu.l.length l.cu.c]] w (RetW (.bool false) w) := by
  have N0 := hide (fun W => isname_any l.nm W h1.1)
  have N1 := hide (fun W => isname_any l.fr W h1.2.1)
  have N2 := hide (fun W => isname_any l.tn W h1.2.2.1)
  have HX := hide ((Own.start w).alloc #[.string l.nm, .string l.fr, .string l.tn, .int .i64 l.kd, .int .i64 l.le, .int .i64 l.up, .int .i64 l.dn, .string l.se, .int .i64 l.wi, .int .i64 l.he, .slice l.cu.A l.cu.l.length l.cu.c] 50)
  have hr := HX.out.r1
  have NE : Nonempty (OwnW w [(w.heap.size, 50, #[.string l.nm, .string l.fr, .string l.tn, .int .i64 l.kd, .int .i64 l.le, .int .i64 l.up, .int .i64 l.dn, .string l.se, .int .i64 l.wi, .int .i64 l.he, .slice l.cu.A l.cu.l.length l.cu.c])]) := ⟨⟨_, HX.out⟩⟩
  have C1 := fun z : OwnW w [(w.heap.size, 50, #[.string l.nm, .string l.fr, .string l.tn, .int .i64 l.kd, .int .i64 l.le, .int .i64 l.up, .int .i64 l.dn, .string l.se, .int .i64 l.wi, .int .i64 l.he, .slice l.cu.A l.cu.l.length l.cu.c])] => z.own.r1
  generalize nameB l.nm.data.toList = b0 at *
  generalize nameB l.fr.data.toList = b1 at *
  generalize nameB l.tn.data.toList = b2 at *
  have ways : b0 = false ∨ (b0 = true ∧ b1 = false) ∨ (b0 = true ∧ b1 = true ∧ b2 = false) ∨ (b0 = true ∧ b1 = true ∧ b2 = true ∧ (l.fr.toList == l.tn.toList) = true) := by
    revert hB
    generalize (l.fr.toList == l.tn.toList) = x
    cases b0 <;> cases b1 <;> cases b2 <;> cases x <;> simp
  clear hB h1
  rcases ways with rfl | ⟨rfl, rfl⟩ | ⟨rfl, rfl, rfl⟩ | ⟨rfl, rfl, rfl, q⟩
  all_goals
    go_enter Tryz.func52, Tryz.ntmps52
    go_wp2_with fail
    refine wp_region_own (w := w) (L := [(w.heap.size, 50, #[.string l.nm, .string l.fr, .string l.tn, .int .i64 l.kd, .int .i64 l.le, .int .i64 l.up, .int .i64 l.dn, .string l.se, .int .i64 l.wi, .int .i64 l.he, .slice l.cu.A l.cu.l.length l.cu.c])]) (by kernel_rfl) (by kernel_rfl) HX.out ?_
    repeat (go_big_quiet_step ((rename_i x; first | with_reducible exact own_same (N0.out _) | with_reducible exact own_same (N1.out _) | with_reducible exact own_same (N2.out _))))
    refine wpQuiet_nil ?_
    rintro _ ⟨⟨W, HY⟩, rfl⟩
    replace HY := hide HY
    go_wp2
    go_ret
    exact ⟨rfl, HY.out.1⟩
set_option maxRecDepth 100000 in
set_option maxHeartbeats 8000000 in
theorem nwlink_mid (l : Lnk) (w : World) (h1 : l.nm.size ≤ maxLen ∧ l.fr.size ≤ maxLen ∧ l.tn.size ≤ maxLen ∧ l.se.size ≤ maxLen) (h2 : KnSl w l.cu.A l.cu.l) (hB : (((nameB l.nm.data.toList && nameB l.fr.data.toList) && nameB l.tn.data.toList) && !(l.fr.toList == l.tn.toList)) = true) : Calls Tryz.prog 52 #[.agg #[.string l.nm, .string l.fr, .string l.tn, .int .i64 l.kd, .int .i64 l.le, .int .i64 l.up, .int .i64 l.dn, .string l.se, .int .i64 l.wi, .int .i64 l.he, .slice l.cu.A l.cu.l.length l.cu.c]] w (RetW (.bool ((inB (-4194304) 4194304 l.up && samB l) && lkK l)) w) := by
  have N0 := hide (fun W => isname_any l.nm W h1.1)
  have N1 := hide (fun W => isname_any l.fr W h1.2.1)
  have N2 := hide (fun W => isname_any l.tn W h1.2.2.1)
  have N3 := hide (fun W => isname_any l.se W h1.2.2.2)
  have PL := hide (fun W => nwplain_any l W)
  have SM := hide (fun W (h : Below w.heap.size w W) => nwsamB_any l W (h2.below h))
  unfold RetW at PL SM
  have HX := hide ((Own.start w).alloc #[.string l.nm, .string l.fr, .string l.tn, .int .i64 l.kd, .int .i64 l.le, .int .i64 l.up, .int .i64 l.dn, .string l.se, .int .i64 l.wi, .int .i64 l.he, .slice l.cu.A l.cu.l.length l.cu.c] 50)
  have hr := HX.out.r1
  have XD := ((((Own.start w).alloc #[.string l.nm, .string l.fr, .string l.tn, .int .i64 l.kd, .int .i64 l.le, .int .i64 l.up, .int .i64 l.dn, .string l.se, .int .i64 l.wi, .int .i64 l.he, .slice l.cu.A l.cu.l.length l.cu.c] 50).alloc #[.int .i64 l.up] 3).drew)
  simp only [World.size_alloc] at XD
  have LV := hide (nwlevel_one l.up (w.heap.size + 1) 1 3 _ (XD.2 (w.heap.size + 1, 3, #[.int .i64 l.up]) (List.mem_cons_self ..)))
  unfold RetW at LV
  replace XD := hide XD
  have BE := hide (fun (a b n : Int) W => nwbetween_any n a b W)
  have LW := hide (fun b cap t W h => nwlevel_one l.dn b cap t W h)
  have TV := hide (fun W (h : Below w.heap.size w W) => tabv_any l.cu.l l.cu.A l.cu.c W (h2.below h))
  have CF := hide (fun W (h : Below w.heap.size w W) => nwcont_any l.cu.l l.cu.A l.cu.c W (h2.below h))
  unfold RetW at LW TV CF
  have KK : Hid (lkK l = if l.kd = 1 then (inB 1 16777216 l.le && inB (-4194304) 4194304 l.dn) && nameB l.se.data.toList else if l.kd = 2 then inB 1 1048576 l.wi else if l.kd = 3 then inB 1 32768 l.wi && inB 1 32768 l.he
    else if l.kd = 4 then ((inB (-4194304) 4194304 l.dn && decide (l.dn < l.up)) && vKn l.cu.l) && !(l.cu.l.any fun d => !inB 0 4194304 d.x || !inB 0 1099511627776 d.y) else false) := hide rfl
  obtain ⟨⟨⟨hb0, hb1⟩, hb2⟩, hq⟩ : ((nameB l.nm.data.toList = true ∧ nameB l.fr.data.toList = true) ∧ nameB l.tn.data.toList = true) ∧ (l.fr.toList == l.tn.toList) = false := by
    simp only [Bool.and_eq_true, Bool.not_eq_true'] at hB; exact hB
  rw [hb0] at N0
  rw [hb1] at N1
  rw [hb2] at N2
  clear hb0 hb1 hb2 hB h1 h2
  generalize lkK l = kk at *
  generalize samB l = s at *
  generalize inB (-4194304) 4194304 l.up = a at *
  generalize (plnL l).val = PV at *
  go_enter Tryz.func52, Tryz.ntmps52
  go_upto_region 1 with (fail)
  go_cut [39] (fun v wx => v = .bool (!(a && s)) ∧ Hid (Own w wx [(w.heap.size, 50, #[.string l.nm, .string l.fr, .string l.tn, .int .i64 l.kd, .int .i64 l.le, .int .i64 l.up, .int .i64 l.dn, .string l.se, .int .i64 l.wi, .int .i64 l.he, .slice l.cu.A l.cu.l.length l.cu.c])]))
  case first =>
    cases a with
    | false =>
      go_region_with (first
        | (go_at_call 73; first | (with_reducible refine (N0.out _).mono ?_; rintro e w2 ⟨rfl, rfl⟩) | (with_reducible refine (N1.out _).mono ?_; rintro e w2 ⟨rfl, rfl⟩) | (with_reducible refine (N2.out _).mono ?_; rintro e w2 ⟨rfl, rfl⟩))
        | (go_at_call 88; refine LV.out.mono ?_; rintro e w2 ⟨rfl, hb⟩; have HL := hide ((XD.out.to hb).tail); clear hb; have hr2 := HL.out.r1))
      all_goals
        go_wp2_with fail
        go_meet
        exact ⟨rfl, HL⟩
    | true =>
      go_region_with (first
        | (go_at_call 73; first | (with_reducible refine (N0.out _).mono ?_; rintro e w2 ⟨rfl, rfl⟩) | (with_reducible refine (N1.out _).mono ?_; rintro e w2 ⟨rfl, rfl⟩) | (with_reducible refine (N2.out _).mono ?_; rintro e w2 ⟨rfl, rfl⟩))
        | (go_at_call 88; refine LV.out.mono ?_; rintro e w2 ⟨rfl, hb⟩; have HL := hide ((XD.out.to hb).tail); clear hb; have hr2 := HL.out.r1)
        | (go_at_call 92; refine (PL.out _).mono ?_; rintro e w3 ⟨rfl, hb⟩; have HM := hide (HL.out.to hb); clear hb; have hr3 := HM.out.r1)
        | (go_at_call 91; refine (SM.out _ HM.out.1).mono ?_; rintro e w4 ⟨rfl, hb⟩; have HN := hide (HM.out.to hb); clear hb; have hr4 := HN.out.r1))
      all_goals
        go_wp2_with fail
        go_meet
        exact ⟨by simp, HN⟩
  case rest =>
    obtain ⟨rfl, HL⟩ := hcut
    clear hr HX XD LV SM PL N0 N1 N2
    have hr := HL.out.r1
    generalize (a && s) = ok at *
    have LE := hide ((HL.out.alloc #[.int .i64 l.dn] 3))
    have LWc := hide (LW.out _ 1 3 _ LE.out.b1)
    clear LW
    cases ok with
    | false =>
      go_wp2
      go_ret
      exact ⟨ret_bool (by simp), HL.out.1⟩
    | true =>
      by_cases k1 : l.kd = 1
      · have E := hide (KK.out.trans (if_pos k1))
        have q1 : (l.kd == 1) = true := by simpa using k1
        have B0 := hide (fun W => BE.out 1 16777216 l.le W)
        clear KK k1 TV CF BE
        generalize inB 1 16777216 l.le = c0 at *
        generalize inB (-4194304) 4194304 l.dn = c1 at *
        generalize nameB l.se.data.toList = c2 at *
        cases c0 with
        | false =>
          go_wp2_with fail
          refine (B0.out _).mono ?_
          rintro e w2 ⟨rfl, rfl⟩
          go_wp2
          go_ret
          exact ⟨ret_bool (by rw [E.out]; simp), HL.out.1⟩
        | true =>
          go_wp2_with fail
          refine (B0.out _).mono ?_
          rintro e w2 ⟨rfl, rfl⟩
          go_wp2_with fail
          refine LWc.out.mono ?_
          rintro e w3 ⟨rfl, hb⟩
          have HM := hide ((LE.out.to hb).tail)
          clear hb hr
          have hr := HM.out.r1
          cases c1 with
          | false =>
            go_wp2
            go_ret
            exact ⟨ret_bool (by rw [E.out]; simp), HM.out.1⟩
          | true =>
            go_wp2_with fail
            refine (N3.out _).mono ?_
            rintro e w4 ⟨rfl, rfl⟩
            go_wp2
            go_ret
            exact ⟨ret_bool (by rw [E.out]; simp), HM.out.1⟩
      · have q1 : (l.kd == 1) = false := by simpa using k1
        replace KK := hide (KK.out.trans (if_neg k1))
        by_cases k2 : l.kd = 2
        · have E := hide (KK.out.trans (if_pos k2))
          have q2 : (l.kd == 2) = true := by simpa using k2
          have B0 := hide (fun W => BE.out 1 1048576 l.wi W)
          clear KK k1 k2 TV CF BE
          generalize inB 1 1048576 l.wi = c0 at *
          go_wp2_with fail
          refine (B0.out _).mono ?_
          rintro e w2 ⟨rfl, rfl⟩
          go_wp2
          go_ret
          exact ⟨ret_bool (by rw [E.out]; simp), HL.out.1⟩
        · have q2 : (l.kd == 2) = false := by simpa using k2
          replace KK := hide (KK.out.trans (if_neg k2))
          by_cases k3 : l.kd = 3
          · have E := hide (KK.out.trans (if_pos k3))
            have q3 : (l.kd == 3) = true := by simpa using k3
            have B0 := hide (fun W => BE.out 1 32768 l.wi W)
            have B1 := hide (fun W => BE.out 1 32768 l.he W)
            clear KK k1 k2 k3 TV CF BE
            generalize inB 1 32768 l.wi = c0 at *
            generalize inB 1 32768 l.he = c1 at *
            cases c0 with
            | false =>
              go_wp2_with fail
              refine (B0.out _).mono ?_
              rintro e w2 ⟨rfl, rfl⟩
              go_wp2
              go_ret
              exact ⟨ret_bool (by rw [E.out]; simp), HL.out.1⟩
            | true =>
              go_wp2_with fail
              refine (B0.out _).mono ?_
              rintro e w2 ⟨rfl, rfl⟩
              go_wp2_with fail
              refine (B1.out _).mono ?_
              rintro e w2 ⟨rfl, rfl⟩
              go_wp2
              go_ret
              exact ⟨ret_bool (by rw [E.out]; simp), HL.out.1⟩
          · have q3 : (l.kd == 3) = false := by simpa using k3
            replace KK := hide (KK.out.trans (if_neg k3))
            by_cases k4 : l.kd = 4
            · have E := hide (KK.out.trans (if_pos k4))
              have q4 : (l.kd == 4) = true := by simpa using k4
              clear KK k1 k2 k3 k4 BE N3
              generalize inB (-4194304) 4194304 l.dn = c1 at *
              generalize vKn l.cu.l = c2 at *
              generalize (l.cu.l.any fun d => !inB 0 4194304 d.x || !inB 0 1099511627776 d.y) = c3 at *
              go_wp2_with fail
              refine LWc.out.mono ?_
              rintro e w3 ⟨rfl, hb⟩
              have HM := hide ((LE.out.to hb).tail)
              clear hb hr
              have hr := HM.out.r1
              cases c1 with
              | false =>
                go_wp2
                go_ret
                exact ⟨ret_bool (by rw [E.out]; simp), HM.out.1⟩
              | true =>
                cases hd : decide (l.dn < l.up) with
                | false =>
                  rw [hd] at E
                  go_wp2
                  go_ret
                  exact ⟨ret_bool (by rw [E.out]; simp), HM.out.1⟩
                | true =>
                  rw [hd] at E
                  go_wp2_with fail
                  refine (TV.out _ HM.out.1).mono ?_
                  rintro e w4 ⟨rfl, hb⟩
                  have HN := hide (HM.out.to hb)
                  clear hb hr
                  have hr := HN.out.r1
                  cases c2 with
                  | false =>
                    go_wp2
                    go_ret
                    exact ⟨ret_bool (by rw [E.out]; simp), HN.out.1⟩
                  | true =>
                    go_wp2_with fail
                    refine (CF.out _ HN.out.1).mono ?_
                    rintro e w5 ⟨rfl, hb⟩
                    have HO := hide (HN.out.to hb)
                    clear hb hr
                    have hr := HO.out.r1
                    go_wp2
                    go_ret
                    exact ⟨ret_bool (by rw [E.out]; simp), HO.out.1⟩
            · have q4 : (l.kd == 4) = false := by simpa using k4
              have E := hide (KK.out.trans (if_neg k4))
              clear KK k1 k2 k3 k4 BE N3 TV CF
              go_wp2
              go_ret
              exact ⟨ret_bool (by rw [E.out]; simp), HL.out.1⟩
end Go.Proofs.YtdcdfjinbieblaaGreatDoor

namespace Go.Proofs.YtdcdfjinbieblaaGreatDoor
open Go Go.RowKit

theorem beq0 (x : Int) : (x == 0) = decide (x = 0) := by rw [Bool.eq_iff_iff]; simp
theorem beqE (s : ByteArray) : (s.toList == ((⟨#[]⟩ : ByteArray)).toList) = decide (s.size = 0) := by
  rw [ByteArray.toList_eq, ByteArray.toList_eq]
  by_cases h : s.size = 0
  · have e : s.data.toList = [] := List.eq_nil_of_length_eq_zero (by rw [Array.length_toList]; exact h)
    rw [e, decide_eq_true h]; rfl
  · rw [decide_eq_false h, beq_eq_false_iff_ne]
    intro e
    have e2 := congrArg List.length e
    rw [Array.length_toList] at e2
    exact h e2
theorem inB0 : inB (-4194304) 4194304 0 = true := by decide
/-- the two ways to say what a link must be -/
theorem lnkB_eq (l : Lnk) : lnkB l = ((((nameB l.nm.data.toList && nameB l.fr.data.toList) && nameB l.tn.data.toList) && !(l.fr.toList == l.tn.toList)) && ((inB (-4194304) 4194304 l.up && samB l) && lkK l)) := by
  unfold lnkB
  generalize (((nameB l.nm.data.toList && nameB l.fr.data.toList) && nameB l.tn.data.toList) && !(l.fr.toList == l.tn.toList)) = N
  generalize inB (-4194304) 4194304 l.up = u
  unfold samB lkK
  by_cases k1 : l.kd = 1
  · rw [plnL_1 k1]
    simp only [k1, if_true, beq_self_eq_true, Bool.true_and, beq0, show ¬ ((1 : Int) = 4) by decide, decide_false, Bool.false_or]
    cases N <;> cases u <;> cases inB (-4194304) 4194304 l.dn <;> cases inB 1 16777216 l.le <;> cases nameB l.se.data.toList <;> cases decide (l.wi = 0) <;> cases decide (l.he = 0) <;> cases decide (l.cu.l.length = 0) <;> rfl
  · by_cases k2 : l.kd = 2
    · rw [plnL_2 k2]
      simp only [k2, if_true, beq_self_eq_true, beq0, beqE, show ¬ ((2 : Int) = 4) by decide, show ¬ ((2 : Int) = 1) by decide, if_false, decide_false, Bool.false_or]
      by_cases hd : l.dn = 0
      · rw [hd, inB0]
        cases N <;> cases u <;> cases decide (l.le = 0) <;> cases decide (l.se.size = 0) <;> cases inB 1 1048576 l.wi <;> cases decide (l.he = 0) <;> cases decide (l.cu.l.length = 0) <;> rfl
      · rw [decide_eq_false hd]
        cases N <;> cases u <;> cases inB (-4194304) 4194304 l.dn <;> cases decide (l.le = 0) <;> cases decide (l.se.size = 0) <;> cases inB 1 1048576 l.wi <;> cases decide (l.he = 0) <;> cases decide (l.cu.l.length = 0) <;> rfl
    · by_cases k3 : l.kd = 3
      · rw [plnL_3 k3]
        simp only [k3, if_true, beq_self_eq_true, beq0, beqE, show ¬ ((3 : Int) = 4) by decide, show ¬ ((3 : Int) = 1) by decide, show ¬ ((3 : Int) = 2) by decide, if_false, decide_false, Bool.false_or, Bool.and_true]
        by_cases hd : l.dn = 0
        · rw [hd, inB0]
          cases N <;> cases u <;> cases decide (l.le = 0) <;> cases decide (l.se.size = 0) <;> cases inB 1 32768 l.wi <;> cases inB 1 32768 l.he <;> cases decide (l.cu.l.length = 0) <;> rfl
        · rw [decide_eq_false hd]
          cases N <;> cases u <;> cases inB (-4194304) 4194304 l.dn <;> cases decide (l.le = 0) <;> cases decide (l.se.size = 0) <;> cases inB 1 32768 l.wi <;> cases inB 1 32768 l.he <;> cases decide (l.cu.l.length = 0) <;> rfl
      · by_cases k4 : l.kd = 4
        · rw [plnL_4 k4]
          have hc : (vKn l.cu.l && !(l.cu.l.any fun d => !inB 0 4194304 d.x || !inB 0 1099511627776 d.y)) = curB l.cu.l := by
            cases hv : vKn l.cu.l with
            | false => unfold curB; rw [hv]; rfl
            | true => rw [curB_any hv]; rfl
          simp only [k4, if_true, beq_self_eq_true, beq0, beqE, show ¬ ((4 : Int) = 1) by decide, show ¬ ((4 : Int) = 2) by decide, show ¬ ((4 : Int) = 3) by decide, if_false, decide_true, Bool.true_or, Bool.and_true]
          rw [← hc]
          generalize (l.cu.l.any fun d => !inB 0 4194304 d.x || !inB 0 1099511627776 d.y) = ca
          cases N <;> cases u <;> cases inB (-4194304) 4194304 l.dn <;> cases decide (l.le = 0) <;> cases decide (l.se.size = 0) <;> cases decide (l.wi = 0) <;> cases decide (l.he = 0) <;> cases decide (l.dn < l.up) <;> cases vKn l.cu.l <;> cases ca <;> rfl
        · simp [k1, k2, k3, k4]
theorem nwrl_any (l : Lnk) (w : World) (h1 : l.nm.size ≤ maxLen ∧ l.fr.size ≤ maxLen ∧ l.tn.size ≤ maxLen ∧ l.se.size ≤ maxLen) (h2 : KnSl w l.cu.A l.cu.l) : Calls Tryz.prog 52 #[l.val] w (RetW (.bool (lnkB l)) w) := by
  rw [lnkB_eq]
  cases hB : (((nameB l.nm.data.toList && nameB l.fr.data.toList) && nameB l.tn.data.toList) && !(l.fr.toList == l.tn.toList)) with
  | false => exact nwlink_early l w h1 hB
  | true => rw [Bool.true_and]; exact nwlink_mid l w h1 h2 hB
end Go.Proofs.YtdcdfjinbieblaaGreatDoor

namespace Go.Proofs.YtdcdfjinbieblaaGreatDoor
open Go Go.RowKit

/-- what a node of a kind must be beside its name and its place -/
def ndK (kd gr iv : Int) (pro : Bool) (re : Int) (n0 : Bool) (sh : Bool) (y : Int) : Bool :=
  if kd = 3 then decide (iv ≤ gr) && n0 && !pro && decide (re = 0)
  else if kd = 1 ∨ kd = 2 then decide (iv < gr) && sh && (if pro then decide (kd = 2) && inB 0 y re else decide (re = 0))
  else false
theorem nodB_eq (n : Nod) : nodB n = (nameB n.nm.data.toList && (inB (-16777216) 16777216 n.x && (inB (-16777216) 16777216 n.y && ((inB (-4194304) 4194304 n.iv && inB (-4194304) 4194304 n.gr) && ndK n.kd n.gr n.iv n.pro n.re (decide (n.sh.l.length = 0)) (shpB n.sh.l (n.gr - n.iv) 1125899906842624) (n.sh.l.getD (n.sh.l.length - 1) ⟨0, 0⟩).y)))) := by
  unfold nodB ndK; simp only [Bool.and_assoc]
set_option maxRecDepth 100000 in
set_option maxHeartbeats 1500000 in
theorem nwnode_bad (n : Nod) (w : World) (h1 : n.nm.size ≤ maxLen) (hB : (nameB n.nm.data.toList && (inB (-16777216) 16777216 n.x && inB (-16777216) 16777216 n.y)) = false) : Calls Tryz.prog 50 #[n.val] w (RetW (.bool false) w) := by
  have NB := hide (fun W => isname_any n.nm W h1)
  have BX := hide (fun W => nwbetween_any n.x (-16777216) 16777216 W)
  have BY := hide (fun W => nwbetween_any n.y (-16777216) 16777216 W)
  have LV := hide (fun b cap t W h => nwlevel_two n.iv n.gr b cap t W h)
  unfold RetW at LV
  have X := (Own.start w).alloc #[.string n.nm, .int .i64 n.kd, .int .i64 n.x, .int .i64 n.y, .int .i64 n.iv, .int .i64 n.gr, .slice n.sh.A n.sh.l.length n.sh.c, .bool n.pro, .int .i64 n.re] 71
  have hr := X.r1
  replace X := hide X
  clear LV h1
  generalize nameB n.nm.data.toList = b0 at *
  generalize inB (-16777216) 16777216 n.x = b1 at *
  generalize inB (-16777216) 16777216 n.y = b2 at *
  have ways : b0 = false ∨ (b0 = true ∧ b1 = false) ∨ (b0 = true ∧ b1 = true ∧ b2 = false) := by cases b0 <;> cases b1 <;> cases b2 <;> simp at hB ⊢
  clear hB
  rcases ways with rfl | ⟨rfl, rfl⟩ | ⟨rfl, rfl, rfl⟩
  ·
    go_enter Tryz.func50, Tryz.ntmps50
    go_wp2_with fail
    refine (NB.out _).mono ?_
    rintro e w' ⟨rfl, rfl⟩
    go_wp2
    go_ret
    exact ⟨rfl, X.out.1⟩
  ·
    go_enter Tryz.func50, Tryz.ntmps50
    go_wp2_with fail
    refine (NB.out _).mono ?_
    rintro e w' ⟨rfl, rfl⟩
    go_wp2_with fail
    refine (BX.out _).mono ?_
    rintro e w' ⟨rfl, rfl⟩
    go_wp2
    go_ret
    exact ⟨rfl, X.out.1⟩
  ·
    go_enter Tryz.func50, Tryz.ntmps50
    go_wp2_with fail
    refine (NB.out _).mono ?_
    rintro e w' ⟨rfl, rfl⟩
    go_wp2_with fail
    refine (BX.out _).mono ?_
    rintro e w' ⟨rfl, rfl⟩
    go_wp2_with fail
    refine (BY.out _).mono ?_
    rintro e w' ⟨rfl, rfl⟩
    go_wp2
    go_ret
    exact ⟨rfl, X.out.1⟩
set_option maxRecDepth 100000 in
set_option maxHeartbeats 1500000 in
theorem nwnode_lev (n : Nod) (w : World) (h1 : n.nm.size ≤ maxLen) (hB : (nameB n.nm.data.toList && (inB (-16777216) 16777216 n.x && inB (-16777216) 16777216 n.y)) = true) (hL : (inB (-4194304) 4194304 n.iv && inB (-4194304) 4194304 n.gr) = false) : Calls Tryz.prog 50 #[n.val] w (RetW (.bool false) w) := by
  have NB := hide (fun W => isname_any n.nm W h1)
  have BX := hide (fun W => nwbetween_any n.x (-16777216) 16777216 W)
  have BY := hide (fun W => nwbetween_any n.y (-16777216) 16777216 W)
  have LV := hide (fun b cap t W h => nwlevel_two n.iv n.gr b cap t W h)
  unfold RetW at LV
  rw [hL] at LV
  have X := (Own.start w).alloc #[.string n.nm, .int .i64 n.kd, .int .i64 n.x, .int .i64 n.y, .int .i64 n.iv, .int .i64 n.gr, .slice n.sh.A n.sh.l.length n.sh.c, .bool n.pro, .int .i64 n.re] 71
  have hr := X.r1
  have XL := X.alloc #[.int .i64 n.iv, .int .i64 n.gr] 3
  simp only [World.size_alloc] at XL
  have LVc := hide (LV.out (w.heap.size + 1) 2 3 _ (XL.2 (w.heap.size + 1, 3, #[.int .i64 n.iv, .int .i64 n.gr]) (List.mem_cons_self ..)))
  replace XL := hide XL
  clear X LV
  clear h1 hL
  generalize nameB n.nm.data.toList = b0 at *
  generalize inB (-16777216) 16777216 n.x = b1 at *
  generalize inB (-16777216) 16777216 n.y = b2 at *
  obtain ⟨rfl, rfl, rfl⟩ : b0 = true ∧ b1 = true ∧ b2 = true := by cases b0 <;> cases b1 <;> cases b2 <;> simp at hB ⊢
  clear hB
  go_enter Tryz.func50, Tryz.ntmps50
  go_wp2_with fail
  refine (NB.out _).mono ?_
  rintro e w' ⟨rfl, rfl⟩
  go_wp2_with fail
  refine (BX.out _).mono ?_
  rintro e w' ⟨rfl, rfl⟩
  go_wp2_with fail
  refine (BY.out _).mono ?_
  rintro e w' ⟨rfl, rfl⟩
  go_wp2_with fail
  refine LVc.out.mono ?_
  rintro e w' ⟨rfl, hb⟩
  replace XL := hide (XL.out.to hb)
  clear hb hr
  go_wp2
  go_ret
  exact ⟨rfl, XL.out.1⟩
set_option maxRecDepth 100000 in
set_option maxHeartbeats 1500000 in
theorem nwnode_other (n : Nod) (w : World) (h1 : n.nm.size ≤ maxLen) (h2 : KnSl w n.sh.A n.sh.l) (hB : (nameB n.nm.data.toList && (inB (-16777216) 16777216 n.x && inB (-16777216) 16777216 n.y)) = true) (hL : (inB (-4194304) 4194304 n.iv && inB (-4194304) 4194304 n.gr) = true) (k1 : (n.kd == 1) = false) (k2 : (n.kd == 2) = false) (k3 : (n.kd == 3) = false) : Calls Tryz.prog 50 #[n.val] w (RetW (.bool false) w) := by
  have NB := hide (fun W => isname_any n.nm W h1)
  have BX := hide (fun W => nwbetween_any n.x (-16777216) 16777216 W)
  have BY := hide (fun W => nwbetween_any n.y (-16777216) 16777216 W)
  have LV := hide (fun b cap t W h => nwlevel_two n.iv n.gr b cap t W h)
  unfold RetW at LV
  rw [hL] at LV
  have D1 : IntKind.i64.wrap (n.gr - n.iv) = n.gr - n.iv := by
    simp only [inB, Bool.and_eq_true, decide_eq_true_eq] at hL
    exact IntWalk.i64_in _ (by omega)
  have SH := hide (fun W h => nwshaped_any n.sh.l n.sh.A n.sh.c (n.gr - n.iv) W h)
  unfold RetW at SH
  obtain ⟨dd, hdd⟩ : ∃ dd, dd = n.gr - n.iv := ⟨_, rfl⟩
  rw [← hdd] at SH
  have D2 : IntKind.i64.wrap (n.gr - n.iv) = dd := D1.trans hdd.symm
  clear D1
  have HS := hide h2
  clear SH HS D2 hdd
  have X := (Own.start w).alloc #[.string n.nm, .int .i64 n.kd, .int .i64 n.x, .int .i64 n.y, .int .i64 n.iv, .int .i64 n.gr, .slice n.sh.A n.sh.l.length n.sh.c, .bool n.pro, .int .i64 n.re] 71
  have hr := X.r1
  have XL := X.alloc #[.int .i64 n.iv, .int .i64 n.gr] 3
  simp only [World.size_alloc] at XL
  have LVc := hide (LV.out (w.heap.size + 1) 2 3 _ (XL.2 (w.heap.size + 1, 3, #[.int .i64 n.iv, .int .i64 n.gr]) (List.mem_cons_self ..)))
  replace XL := hide XL
  clear X LV
  clear h1 hL h2
  generalize nameB n.nm.data.toList = b0 at *
  generalize inB (-16777216) 16777216 n.x = b1 at *
  generalize inB (-16777216) 16777216 n.y = b2 at *
  obtain ⟨rfl, rfl, rfl⟩ : b0 = true ∧ b1 = true ∧ b2 = true := by cases b0 <;> cases b1 <;> cases b2 <;> simp at hB ⊢
  clear hB
  go_enter Tryz.func50, Tryz.ntmps50
  go_wp2_with fail
  refine (NB.out _).mono ?_
  rintro e w' ⟨rfl, rfl⟩
  go_wp2_with fail
  refine (BX.out _).mono ?_
  rintro e w' ⟨rfl, rfl⟩
  go_wp2_with fail
  refine (BY.out _).mono ?_
  rintro e w' ⟨rfl, rfl⟩
  go_wp2_with fail
  refine LVc.out.mono ?_
  rintro e w' ⟨rfl, hb⟩
  replace XL := hide (XL.out.to hb)
  clear hb hr
  have hr := XL.out.tail.r1
  go_wp2
  go_ret
  exact ⟨rfl, XL.out.1⟩
theorem ways_and3 (a b p d : Bool) : (a = false ∧ (a && b && !p && d) = false) ∨ (a = true ∧ b = false ∧ (a && b && !p && d) = false) ∨ (a = true ∧ b = true ∧ p = true ∧ (a && b && !p && d) = false) ∨ (a = true ∧ b = true ∧ p = false ∧ (a && b && !p && d) = d) := by
  cases a <;> cases b <;> cases p <;> simp
set_option maxRecDepth 100000 in
set_option maxHeartbeats 1500000 in
theorem nwnode_out (n : Nod) (w : World) (h1 : n.nm.size ≤ maxLen) (h2 : KnSl w n.sh.A n.sh.l) (hB : (nameB n.nm.data.toList && (inB (-16777216) 16777216 n.x && inB (-16777216) 16777216 n.y)) = true) (hL : (inB (-4194304) 4194304 n.iv && inB (-4194304) 4194304 n.gr) = true) (hk : n.kd = 3) : Calls Tryz.prog 50 #[n.val] w (RetW (.bool (decide (n.iv ≤ n.gr) && decide (n.sh.l.length = 0) && !n.pro && decide (n.re = 0))) w) := by
  have NB := hide (fun W => isname_any n.nm W h1)
  have BX := hide (fun W => nwbetween_any n.x (-16777216) 16777216 W)
  have BY := hide (fun W => nwbetween_any n.y (-16777216) 16777216 W)
  have LV := hide (fun b cap t W h => nwlevel_two n.iv n.gr b cap t W h)
  unfold RetW at LV
  rw [hL] at LV
  have D1 : IntKind.i64.wrap (n.gr - n.iv) = n.gr - n.iv := by
    simp only [inB, Bool.and_eq_true, decide_eq_true_eq] at hL
    exact IntWalk.i64_in _ (by omega)
  have SH := hide (fun W h => nwshaped_any n.sh.l n.sh.A n.sh.c (n.gr - n.iv) W h)
  unfold RetW at SH
  obtain ⟨dd, hdd⟩ : ∃ dd, dd = n.gr - n.iv := ⟨_, rfl⟩
  rw [← hdd] at SH
  have D2 : IntKind.i64.wrap (n.gr - n.iv) = dd := D1.trans hdd.symm
  clear D1
  have HS := hide h2
  have WY := ways_and3 (decide (n.iv ≤ n.gr)) (decide (n.sh.l.length = 0)) n.pro (decide (n.re = 0))
  have hlen : n.sh.l.length ≤ 9223372036854775807 := by have := h2.1; unfold maxLen at this; omega
  have L0 : decide ((n.sh.l.length : Int) = 0) = decide (n.sh.l.length = 0) := by
    rw [Bool.eq_iff_iff]; simp only [decide_eq_true_eq]; omega
  have L1 : ((n.sh.l.length : Int) == 0) = decide (n.sh.l.length = 0) := by
    rw [Bool.eq_iff_iff]; simp only [decide_eq_true_eq, beq_iff_eq]; omega
  have R1 : (n.re == 0) = decide (n.re = 0) := by
    rw [Bool.eq_iff_iff]; simp only [decide_eq_true_eq, beq_iff_eq]
  clear SH HS D2 hdd
  show Calls Tryz.prog _ #[.agg #[.string n.nm, .int .i64 n.kd, .int .i64 n.x, .int .i64 n.y, .int .i64 n.iv, .int .i64 n.gr, .slice n.sh.A n.sh.l.length n.sh.c, .bool n.pro, .int .i64 n.re]] w _
  rw [hk]
  have X := (Own.start w).alloc #[.string n.nm, .int .i64 3, .int .i64 n.x, .int .i64 n.y, .int .i64 n.iv, .int .i64 n.gr, .slice n.sh.A n.sh.l.length n.sh.c, .bool n.pro, .int .i64 n.re] 71
  have hr := X.r1
  have XL := X.alloc #[.int .i64 n.iv, .int .i64 n.gr] 3
  simp only [World.size_alloc] at XL
  have LVc := hide (LV.out (w.heap.size + 1) 2 3 _ (XL.2 (w.heap.size + 1, 3, #[.int .i64 n.iv, .int .i64 n.gr]) (List.mem_cons_self ..)))
  replace XL := hide XL
  clear X LV
  clear h1 hL h2
  generalize nameB n.nm.data.toList = b0 at *
  generalize inB (-16777216) 16777216 n.x = b1 at *
  generalize inB (-16777216) 16777216 n.y = b2 at *
  obtain ⟨rfl, rfl, rfl⟩ : b0 = true ∧ b1 = true ∧ b2 = true := by cases b0 <;> cases b1 <;> cases b2 <;> simp at hB ⊢
  clear hB
  go_enter Tryz.func50, Tryz.ntmps50
  go_wp2_with fail
  refine (NB.out _).mono ?_
  rintro e w' ⟨rfl, rfl⟩
  go_wp2_with fail
  refine (BX.out _).mono ?_
  rintro e w' ⟨rfl, rfl⟩
  go_wp2_with fail
  refine (BY.out _).mono ?_
  rintro e w' ⟨rfl, rfl⟩
  go_wp2_with fail
  refine LVc.out.mono ?_
  rintro e w' ⟨rfl, hb⟩
  replace XL := hide (XL.out.to hb)
  clear hb hr
  have hr := XL.out.tail.r1
  generalize (decide (n.iv ≤ n.gr) && decide (n.sh.l.length = 0) && !n.pro && decide (n.re = 0)) = v at *
  generalize decide (n.sh.l.length = 0) = c1 at *
  generalize n.pro = PR at *
  rcases WY with ⟨q0, rfl⟩ | ⟨q0, q1, rfl⟩ | ⟨q0, q1, q2, rfl⟩ | ⟨q0, q1, q2, rfl⟩
  all_goals
    try subst q2
    go_wp2
    go_ret
    exact ⟨ret_bool (by simp), XL.out.1⟩
theorem ways_man (a sh p : Bool) (d : Bool) : (a = false ∧ (a && sh && (if p then false else d)) = false) ∨ (a = true ∧ sh = false ∧ (a && sh && (if p then false else d)) = false) ∨ (a = true ∧ sh = true ∧ p = true ∧ (a && sh && (if p then false else d)) = false) ∨ (a = true ∧ sh = true ∧ p = false ∧ (a && sh && (if p then false else d)) = d) := by
  cases a <;> cases sh <;> cases p <;> simp
theorem ways_tank (a sh p : Bool) (c d : Bool) : (a = false ∧ (a && sh && (if p then c else d)) = false) ∨ (a = true ∧ sh = false ∧ (a && sh && (if p then c else d)) = false) ∨ (a = true ∧ sh = true ∧ p = true ∧ (a && sh && (if p then c else d)) = c) ∨ (a = true ∧ sh = true ∧ p = false ∧ (a && sh && (if p then c else d)) = d) := by
  cases a <;> cases sh <;> cases p <;> simp
theorem lt_flip (a b : Int) : decide (a < b) = !decide (b ≤ a) := by
  rw [Bool.eq_iff_iff]; simp
set_option maxRecDepth 100000 in
set_option maxHeartbeats 1500000 in
theorem nwnode_man (n : Nod) (w : World) (h1 : n.nm.size ≤ maxLen) (h2 : KnSl w n.sh.A n.sh.l) (hB : (nameB n.nm.data.toList && (inB (-16777216) 16777216 n.x && inB (-16777216) 16777216 n.y)) = true) (hL : (inB (-4194304) 4194304 n.iv && inB (-4194304) 4194304 n.gr) = true) (hk : n.kd = 1) : Calls Tryz.prog 50 #[n.val] w (RetW (.bool (!decide (n.gr ≤ n.iv) && shpB n.sh.l (n.gr - n.iv) 1125899906842624 && (if n.pro then false else decide (n.re = 0)))) w) := by
  have NB := hide (fun W => isname_any n.nm W h1)
  have BX := hide (fun W => nwbetween_any n.x (-16777216) 16777216 W)
  have BY := hide (fun W => nwbetween_any n.y (-16777216) 16777216 W)
  have LV := hide (fun b cap t W h => nwlevel_two n.iv n.gr b cap t W h)
  unfold RetW at LV
  rw [hL] at LV
  have D1 : IntKind.i64.wrap (n.gr - n.iv) = n.gr - n.iv := by
    simp only [inB, Bool.and_eq_true, decide_eq_true_eq] at hL
    exact IntWalk.i64_in _ (by omega)
  have SH := hide (fun W h => nwshaped_any n.sh.l n.sh.A n.sh.c (n.gr - n.iv) W h)
  unfold RetW at SH
  obtain ⟨dd, hdd⟩ : ∃ dd, dd = n.gr - n.iv := ⟨_, rfl⟩
  rw [← hdd] at SH
  have D2 : IntKind.i64.wrap (n.gr - n.iv) = dd := D1.trans hdd.symm
  clear D1
  have HS := hide h2
  have FL := lt_flip n.iv n.gr
  have R1 : (n.re == 0) = decide (n.re = 0) := by
    rw [Bool.eq_iff_iff]; simp only [decide_eq_true_eq, beq_iff_eq]
  show Calls Tryz.prog _ #[.agg #[.string n.nm, .int .i64 n.kd, .int .i64 n.x, .int .i64 n.y, .int .i64 n.iv, .int .i64 n.gr, .slice n.sh.A n.sh.l.length n.sh.c, .bool n.pro, .int .i64 n.re]] w _
  rw [hk]
  have WY := ways_man (decide (n.iv < n.gr)) (shpB n.sh.l (n.gr - n.iv) 1125899906842624) n.pro (decide (n.re = 0))
  rw [FL] at WY
  generalize (!decide (n.gr ≤ n.iv) && shpB n.sh.l (n.gr - n.iv) 1125899906842624 && (if n.pro then false else decide (n.re = 0))) = v at *
  clear FL
  rw [← hdd] at WY
  clear hdd
  generalize shpB n.sh.l dd 1125899906842624 = sh at *
  generalize n.pro = PR at *
  replace WY := hide WY
  have X := (Own.start w).alloc #[.string n.nm, .int .i64 1, .int .i64 n.x, .int .i64 n.y, .int .i64 n.iv, .int .i64 n.gr, .slice n.sh.A n.sh.l.length n.sh.c, .bool PR, .int .i64 n.re] 71
  have hr := X.r1
  have XL := X.alloc #[.int .i64 n.iv, .int .i64 n.gr] 3
  simp only [World.size_alloc] at XL
  have LVc := hide (LV.out (w.heap.size + 1) 2 3 _ (XL.2 (w.heap.size + 1, 3, #[.int .i64 n.iv, .int .i64 n.gr]) (List.mem_cons_self ..)))
  replace XL := hide XL
  clear X LV
  clear h1 hL h2
  generalize nameB n.nm.data.toList = b0 at *
  generalize inB (-16777216) 16777216 n.x = b1 at *
  generalize inB (-16777216) 16777216 n.y = b2 at *
  obtain ⟨rfl, rfl, rfl⟩ : b0 = true ∧ b1 = true ∧ b2 = true := by cases b0 <;> cases b1 <;> cases b2 <;> simp at hB ⊢
  clear hB
  go_enter Tryz.func50, Tryz.ntmps50
  go_wp2_with fail
  refine (NB.out _).mono ?_
  rintro e w' ⟨rfl, rfl⟩
  go_wp2_with fail
  refine (BX.out _).mono ?_
  rintro e w' ⟨rfl, rfl⟩
  go_wp2_with fail
  refine (BY.out _).mono ?_
  rintro e w' ⟨rfl, rfl⟩
  go_wp2_with fail
  refine LVc.out.mono ?_
  rintro e w' ⟨rfl, hb⟩
  replace XL := hide (XL.out.to hb)
  clear hb hr
  have hr := XL.out.tail.r1
  rcases WY.out with ⟨q0, rfl⟩ | ⟨q0, rfl, rfl⟩ | ⟨q0, rfl, q1, rfl⟩ | ⟨q0, rfl, q1, rfl⟩
  · replace q0 : decide (n.gr ≤ n.iv) = true := by simpa using q0
    go_wp2
    go_ret
    exact ⟨rfl, XL.out.1⟩
  all_goals
    replace q0 : decide (n.gr ≤ n.iv) = false := by simpa using q0
    try subst q1
    try rw [q1] at *
    go_wp2_with fail
    refine (SH.out _ (HS.out.below XL.out.1)).mono ?_
    rintro e w2 ⟨rfl, hb⟩
    replace XL := hide (XL.out.to hb)
    clear hb hr
    have hr := XL.out.tail.r1
    go_wp2
    go_ret
    exact ⟨ret_bool (by simp), XL.out.1⟩
theorem kn_last (l : List Knt) (A : Option Addr) (w : World) (h : KnSl w A l) (hv : vKn l = true) : ∃ b off j, A = some ⟨b, off, none⟩ ∧ b < w.heap.size ∧ IntKind.i64.wrap ((l.length : Int) - 1) = ((j : Nat) : Int) ∧ (0 : Int) ≤ (j : Int) ∧ (j : Int) < (l.length : Int) ∧ w.cell? ⟨b, off + j * 2 + 1, none⟩ = some (.int .i64 (l.getD (l.length - 1) ⟨0, 0⟩).y) := by
  obtain ⟨n1, n2⟩ := (vKn_iff.1 hv).1
  obtain ⟨b, off, e, hbl, hat⟩ := h.2 (by omega)
  obtain ⟨j, hj⟩ : ∃ j, l.length = j + 1 := ⟨l.length - 1, by omega⟩
  have hj2 : j < l.length := by omega
  have e1 : l.getD (l.length - 1) ⟨0, 0⟩ = l[j] := by
    have : l.length - 1 = j := by omega
    rw [this]
    simp [List.getD, List.getElem?_eq_getElem hj2]
  exact ⟨b, off, j, e, hbl, by rw [IntWalk.i64_in _ (by omega)]; omega, by omega, by omega, by rw [e1]; exact (hat j hj2).2⟩
set_option maxRecDepth 100000 in
set_option maxHeartbeats 1500000 in
theorem nwnode_tank (n : Nod) (w : World) (h1 : n.nm.size ≤ maxLen) (h2 : KnSl w n.sh.A n.sh.l) (hB : (nameB n.nm.data.toList && (inB (-16777216) 16777216 n.x && inB (-16777216) 16777216 n.y)) = true) (hL : (inB (-4194304) 4194304 n.iv && inB (-4194304) 4194304 n.gr) = true) (hk : n.kd = 2) : Calls Tryz.prog 50 #[n.val] w (RetW (.bool (!decide (n.gr ≤ n.iv) && shpB n.sh.l (n.gr - n.iv) 1125899906842624 && (if n.pro then inB 0 (n.sh.l.getD (n.sh.l.length - 1) ⟨0, 0⟩).y n.re else decide (n.re = 0)))) w) := by
  have NB := hide (fun W => isname_any n.nm W h1)
  have BX := hide (fun W => nwbetween_any n.x (-16777216) 16777216 W)
  have BY := hide (fun W => nwbetween_any n.y (-16777216) 16777216 W)
  have LV := hide (fun b cap t W h => nwlevel_two n.iv n.gr b cap t W h)
  unfold RetW at LV
  rw [hL] at LV
  have D1 : IntKind.i64.wrap (n.gr - n.iv) = n.gr - n.iv := by
    simp only [inB, Bool.and_eq_true, decide_eq_true_eq] at hL
    exact IntWalk.i64_in _ (by omega)
  have SH := hide (fun W h => nwshaped_any n.sh.l n.sh.A n.sh.c (n.gr - n.iv) W h)
  unfold RetW at SH
  obtain ⟨dd, hdd⟩ : ∃ dd, dd = n.gr - n.iv := ⟨_, rfl⟩
  rw [← hdd] at SH
  have D2 : IntKind.i64.wrap (n.gr - n.iv) = dd := D1.trans hdd.symm
  clear D1
  have HS := hide h2
  have FL := lt_flip n.iv n.gr
  have R1 : (n.re == 0) = decide (n.re = 0) := by
    rw [Bool.eq_iff_iff]; simp only [decide_eq_true_eq, beq_iff_eq]
  show Calls Tryz.prog _ #[.agg #[.string n.nm, .int .i64 n.kd, .int .i64 n.x, .int .i64 n.y, .int .i64 n.iv, .int .i64 n.gr, .slice n.sh.A n.sh.l.length n.sh.c, .bool n.pro, .int .i64 n.re]] w _
  rw [hk]
  have WY := ways_tank (decide (n.iv < n.gr)) (shpB n.sh.l (n.gr - n.iv) 1125899906842624) n.pro (inB 0 (n.sh.l.getD (n.sh.l.length - 1) ⟨0, 0⟩).y n.re) (decide (n.re = 0))
  have LY := hide (fun (h : shpB n.sh.l (n.gr - n.iv) 1125899906842624 = true) => kn_last n.sh.l n.sh.A w h2 (by
    unfold shpB at h
    simp only [Bool.and_eq_true] at h
    exact h.1.1))
  have BR := hide (fun y W => nwbetween_any n.re 0 y W)
  rw [FL] at WY
  generalize (n.sh.l.getD (n.sh.l.length - 1) ⟨0, 0⟩).y = ly at *
  generalize (!decide (n.gr ≤ n.iv) && shpB n.sh.l (n.gr - n.iv) 1125899906842624 && (if n.pro then inB 0 ly n.re else decide (n.re = 0))) = v at *
  clear FL
  rw [← hdd] at WY LY
  clear hdd
  generalize shpB n.sh.l dd 1125899906842624 = sh at *
  generalize n.pro = PR at *
  replace WY := hide WY
  have X := (Own.start w).alloc #[.string n.nm, .int .i64 2, .int .i64 n.x, .int .i64 n.y, .int .i64 n.iv, .int .i64 n.gr, .slice n.sh.A n.sh.l.length n.sh.c, .bool PR, .int .i64 n.re] 71
  have hr := X.r1
  have XL := X.alloc #[.int .i64 n.iv, .int .i64 n.gr] 3
  simp only [World.size_alloc] at XL
  have LVc := hide (LV.out (w.heap.size + 1) 2 3 _ (XL.2 (w.heap.size + 1, 3, #[.int .i64 n.iv, .int .i64 n.gr]) (List.mem_cons_self ..)))
  replace XL := hide XL
  clear X LV
  clear h1 hL h2
  generalize nameB n.nm.data.toList = b0 at *
  generalize inB (-16777216) 16777216 n.x = b1 at *
  generalize inB (-16777216) 16777216 n.y = b2 at *
  obtain ⟨rfl, rfl, rfl⟩ : b0 = true ∧ b1 = true ∧ b2 = true := by cases b0 <;> cases b1 <;> cases b2 <;> simp at hB ⊢
  clear hB
  go_enter Tryz.func50, Tryz.ntmps50
  go_wp2_with fail
  refine (NB.out _).mono ?_
  rintro e w' ⟨rfl, rfl⟩
  go_wp2_with fail
  refine (BX.out _).mono ?_
  rintro e w' ⟨rfl, rfl⟩
  go_wp2_with fail
  refine (BY.out _).mono ?_
  rintro e w' ⟨rfl, rfl⟩
  go_wp2_with fail
  refine LVc.out.mono ?_
  rintro e w' ⟨rfl, hb⟩
  replace XL := hide (XL.out.to hb)
  clear hb hr
  have hr := XL.out.tail.r1
  rcases WY.out with ⟨q0, rfl⟩ | ⟨q0, rfl, rfl⟩ | ⟨q0, rfl, q1, rfl⟩ | ⟨q0, rfl, q1, rfl⟩
  · replace q0 : decide (n.gr ≤ n.iv) = true := by simpa using q0
    clear LY
    go_wp2
    go_ret
    exact ⟨rfl, XL.out.1⟩
  rotate_left
  rotate_left
  all_goals
    replace q0 : decide (n.gr ≤ n.iv) = false := by simpa using q0
    try subst q1
    have LZ := LY
    clear LY
    go_wp2_with fail
    refine (SH.out _ (HS.out.below XL.out.1)).mono ?_
    rintro e w2 ⟨rfl, hb⟩
    replace XL := hide (XL.out.to hb)
    clear hb hr
    have hr := XL.out.tail.r1
  rotate_left
  rotate_left
  · obtain ⟨b, off, j, hA, hbl, g0, g1, g2, cy⟩ := LZ.out (by trivial)
    rw [hA] at XL hr
    rw [hA]
    have NE : Nonempty (OwnW w [(w.heap.size + 1, 3, #[.int .i64 n.iv, .int .i64 n.gr]), (w.heap.size, 71, #[.string n.nm, .int .i64 2, .int .i64 n.x, .int .i64 n.y, .int .i64 n.iv, .int .i64 n.gr, .slice (some ⟨b, off, none⟩) n.sh.l.length n.sh.c, .bool true, .int .i64 n.re])]) := ⟨⟨_, XL.out⟩⟩
    have C1 := fun z : OwnW w [(w.heap.size + 1, 3, #[.int .i64 n.iv, .int .i64 n.gr]), (w.heap.size, 71, #[.string n.nm, .int .i64 2, .int .i64 n.x, .int .i64 n.y, .int .i64 n.iv, .int .i64 n.gr, .slice (some ⟨b, off, none⟩) n.sh.l.length n.sh.c, .bool true, .int .i64 n.re])] => z.own.tail.r1
    have C2 := fun z : OwnW w [(w.heap.size + 1, 3, #[.int .i64 n.iv, .int .i64 n.gr]), (w.heap.size, 71, #[.string n.nm, .int .i64 2, .int .i64 n.x, .int .i64 n.y, .int .i64 n.iv, .int .i64 n.gr, .slice (some ⟨b, off, none⟩) n.sh.l.length n.sh.c, .bool true, .int .i64 n.re])] => (z.own.1.cell (p := ⟨b, off + j * 2 + 1, none⟩) hbl).trans cy
    clear LZ cy
    go_wp2_with fail
    refine wp_region_own (w := w) (L := [(w.heap.size + 1, 3, #[.int .i64 n.iv, .int .i64 n.gr]), (w.heap.size, 71, #[.string n.nm, .int .i64 2, .int .i64 n.x, .int .i64 n.y, .int .i64 n.iv, .int .i64 n.gr, .slice (some ⟨b, off, none⟩) n.sh.l.length n.sh.c, .bool true, .int .i64 n.re])]) (by kernel_rfl) (by kernel_rfl) XL.out ?_
    repeat (go_big_quiet_step ((rename_i x; with_reducible exact own_same (BR.out _ _))))
    refine wpQuiet_nil ?_
    rintro _ ⟨⟨W, HX⟩, rfl⟩
    replace HX := hide HX
    go_wp2
    go_ret
    exact ⟨rfl, HX.out.1⟩
  all_goals
    clear LZ
    go_wp2
    go_ret
    exact ⟨ret_bool (by simp), XL.out.1⟩
theorem nwnode_any (n : Nod) (w : World) (h1 : n.nm.size ≤ maxLen) (h2 : KnSl w n.sh.A n.sh.l) : Calls Tryz.prog 50 #[n.val] w (RetW (.bool (nodB n)) w) := by
  rw [nodB_eq n]
  cases hB : (nameB n.nm.data.toList && (inB (-16777216) 16777216 n.x && inB (-16777216) 16777216 n.y)) with
  | false =>
    have q := nwnode_bad n w h1 hB
    rw [← Bool.and_assoc, ← Bool.and_assoc, Bool.and_assoc (nameB n.nm.data.toList), hB]
    exact q
  | true =>
    rw [← Bool.and_assoc, ← Bool.and_assoc, Bool.and_assoc (nameB n.nm.data.toList), hB]
    cases hL : (inB (-4194304) 4194304 n.iv && inB (-4194304) 4194304 n.gr) with
    | false => exact nwnode_lev n w h1 hB hL
    | true =>
      rw [Bool.true_and, Bool.true_and]
      by_cases k3 : n.kd = 3
      · have q := nwnode_out n w h1 h2 hB hL k3
        unfold ndK
        rw [if_pos k3]
        exact q
      · by_cases k1 : n.kd = 1
        · have q := nwnode_man n w h1 h2 hB hL k1
          unfold ndK
          rw [if_neg k3, if_pos (.inl k1), lt_flip, k1]
          exact q
        · by_cases k2 : n.kd = 2
          · have q := nwnode_tank n w h1 h2 hB hL k2
            unfold ndK
            rw [if_neg k3, if_pos (.inr k2), lt_flip, k2]
            exact q
          · have q := nwnode_other n w h1 h2 hB hL (by simpa using k1) (by simpa using k2) (by simpa using k3)
            unfold ndK
            rw [if_neg k3, if_neg (by rintro (h | h); exact k1 h; exact k2 h)]
            exact q
end Go.Proofs.YtdcdfjinbieblaaGreatDoor

namespace Go.Proofs.YtdcdfjinbieblaaGreatDoor
open Go Go.RowKit

set_option maxHeartbeats 1000000 in
theorem node1_any (d : Nod) (s : ByteArray) (b : Nat) (w : World) (hb : Blk w b 9 #[.string s]) : Calls Tryz.prog 90 #[d.val, .pointer (some ⟨b, 0, none⟩)] w (RetW (.bool (d.nm.toList == s.toList)) w) := by
  have X := (show Own w w [(b, 9, #[.string s])] from ⟨Below.refl _ _, fun x hx => by rw [List.mem_singleton.1 hx]; exact hb⟩).alloc #[.string d.nm, .int .i64 d.kd, .int .i64 d.x, .int .i64 d.y, .int .i64 d.iv, .int .i64 d.gr, .slice d.sh.A d.sh.l.length d.sh.c, .bool d.pro, .int .i64 d.re] 71
  have n0 := hb.lt
  have n1 : ¬ b = w.heap.size := by omega
  have hr := X.r2
  have XB := hide X.1
  clear X hb
  generalize hq : (d.nm.toList == s.toList) = q
  go_enter Tryz.func90, Tryz.ntmps90
  go_wp2
  go_ret
  exact ⟨rfl, XB.out⟩
set_option maxHeartbeats 1000000 in
theorem nodeix_any (n : Net) (s : ByteArray) (w : World) (h : NodSl w n.A n.nl) : Calls Tryz.prog 51 #[n.val, .string s] w (RetW (.int .i64 (ndIx n.nl s)) w) := by
  have X := ((Own.start w).alloc #[.slice n.A n.nl.length n.c, .slice n.B n.ll.length n.c'] 25).alloc #[.string s] 9
  simp only [World.size_alloc] at X
  have hr := X.r2
  have XB := hide X
  have IX := hide (ixNdx_any 90 (.pointer (some ⟨w.heap.size + 1, 0, none⟩)) (fun x => x.nm.toList == s.toList) n.nl n.A n.c _ (fun d W hb _ => node1_any d s (w.heap.size + 1) W ((X.2 (w.heap.size + 1, 9, #[.string s]) (List.mem_cons_self ..)).below hb (by simp))) (fun d w => enters_of Tryz.func90 (by kernel_rfl) rfl _ w) (h.below X.1))
  unfold RetW at IX
  clear X h
  show Calls Tryz.prog _ _ w (RetW (.int .i64 (ixB (fun x => x.nm.toList == s.toList) n.nl)) w)
  generalize ixB (fun x => x.nm.toList == s.toList) n.nl = i at *
  go_enter Tryz.func51, Tryz.ntmps51
  go_wp2_with fail
  refine IX.out.mono ?_
  rintro e w' ⟨rfl, hb⟩
  replace XB := hide (XB.out.to hb)
  clear hb
  go_wp2
  go_ret
  exact ⟨rfl, XB.out.1⟩
set_option maxHeartbeats 1000000 in
theorem link1_any (d : Lnk) (s : ByteArray) (b : Nat) (w : World) (hb : Blk w b 9 #[.string s]) : Calls Tryz.prog 96 #[d.val, .pointer (some ⟨b, 0, none⟩)] w (RetW (.bool (d.nm.toList == s.toList)) w) := by
  have X := (show Own w w [(b, 9, #[.string s])] from ⟨Below.refl _ _, fun x hx => by rw [List.mem_singleton.1 hx]; exact hb⟩).alloc #[.string d.nm, .string d.fr, .string d.tn, .int .i64 d.kd, .int .i64 d.le, .int .i64 d.up, .int .i64 d.dn, .string d.se, .int .i64 d.wi, .int .i64 d.he, .slice d.cu.A d.cu.l.length d.cu.c] 50
  have n0 := hb.lt
  have n1 : ¬ b = w.heap.size := by omega
  have hr := X.r2
  have XB := hide X.1
  clear X hb
  generalize hq : (d.nm.toList == s.toList) = q
  go_enter Tryz.func96, Tryz.ntmps96
  go_wp2
  go_ret
  exact ⟨rfl, XB.out⟩
set_option maxHeartbeats 1000000 in
theorem linkix_any (n : Net) (s : ByteArray) (w : World) (h : LnkSl w n.B n.ll) : Calls Tryz.prog 53 #[n.val, .string s] w (RetW (.int .i64 (lkIx n.ll s)) w) := by
  have X := ((Own.start w).alloc #[.slice n.A n.nl.length n.c, .slice n.B n.ll.length n.c'] 25).alloc #[.string s] 9
  simp only [World.size_alloc] at X
  have hr := X.r2
  have XB := hide X
  have IX := hide (ixLkx_any 96 (.pointer (some ⟨w.heap.size + 1, 0, none⟩)) (fun x => x.nm.toList == s.toList) n.ll n.B n.c' _ (fun d W hb _ => link1_any d s (w.heap.size + 1) W ((X.2 (w.heap.size + 1, 9, #[.string s]) (List.mem_cons_self ..)).below hb (by simp))) (fun d w => enters_of Tryz.func96 (by kernel_rfl) rfl _ w) (h.below X.1))
  unfold RetW at IX
  clear X h
  show Calls Tryz.prog _ _ w (RetW (.int .i64 (ixB (fun x => x.nm.toList == s.toList) n.ll)) w)
  generalize ixB (fun x => x.nm.toList == s.toList) n.ll = i at *
  go_enter Tryz.func53, Tryz.ntmps53
  go_wp2_with fail
  refine IX.out.mono ?_
  rintro e w' ⟨rfl, hb⟩
  replace XB := hide (XB.out.to hb)
  clear hb
  go_wp2
  go_ret
  exact ⟨rfl, XB.out.1⟩
end Go.Proofs.YtdcdfjinbieblaaGreatDoor
