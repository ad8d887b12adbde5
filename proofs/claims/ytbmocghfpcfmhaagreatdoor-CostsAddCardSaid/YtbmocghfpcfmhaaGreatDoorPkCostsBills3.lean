/- Parts of one proof, joined: The reference's Compare of bills, slices.Equal at items, the bound of the laws on bills; nothing that was there is turned. Slices of items as arguments: what a reading of them gives. -/
import Derived.Test.YtbmocghfpcfmhaaGreatDoorPkCostsBills2
import Derived.Test.YtbmocghfpcfmhaaGreatDoorPkCostsTrenches24
import Derived.Test.YtbmocghfpcfmhaaGreatDoorPkCostsTrenches23
import Derived.Test.YtbmocghfpcfmhaaGreatDoorPkCostsTrenches10
namespace Go.Proofs.YtbmocghfpcfmhaaGreatDoor
open Go Go.RowKit

theorem reads_itm {w : World} {A : Option Addr} {l : List Itm} (h : ItmSl w A l) : Reads w w.heap.size 3 A l.length (flatItm l) :=
  ⟨flatItm_len l, fun hl => by
    obtain ⟨b, off, e, hbl, hat⟩ := h.2 hl
    refine ⟨⟨b, off, none⟩, e, hbl, fun j u hj => ?_⟩
    have e : (⟨b, off, none⟩ : Addr).add j = ⟨b, off + j, none⟩ := by unfold Addr.add; split <;> simp_all
    rw [e]
    exact ItmSl.cells hat j u hj⟩
theorem rmerge_any (l : List Itm) (A : Option Addr) (cap : Nat) (w : World) (hl : ItmSl w A l) : Calls Tryz.prog 16 #[.slice A l.length cap] w (BilPost (meL l) (meE l) w) := by
  cases hv : vI l with
  | true =>
    have E1 : meE l = mgE l := by unfold meE; rw [if_pos hv]
    have M1 : meL l = mgL l := by unfold meL; rw [if_pos hv]
    rw [E1, M1]
    exact rmerge_ok l A cap w hl hv
  | false =>
    have V := hide (fun W h => rvalid48_any l A cap W h)
    rw [hv] at V
    unfold RetW at V
    have HL := hide hl
    have E1 : meE l = 1 := by unfold meE; rw [hv]; rfl
    have M1 : meL l = [] := by unfold meL; rw [hv]; rfl
    have HP := hide (fun W (h : Below w.heap.size w W) => (show BilPost (meL l) (meE l) w (.returned (.tuple #[.slice none 0 0, .int .i64 1])) W from ⟨h, none, 0, by rw [M1, E1]; rfl, by rw [M1]; exact ItmSl.nil _ _⟩))
    clear hl hv E1 M1
    go_enter Tryz.func16, Tryz.ntmps16
    go_wp2_with fail
    refine (V.out _ HL.out).mono ?_
    rintro e w1 ⟨rfl, hb⟩
    have HQ := hide (HP.out _ hb)
    clear hb HP
    go_wp2
    go_ret2
    exact HQ.out
set_option maxHeartbeats 1000000 in
theorem rcompare_inv (a b : List Itm) (A B : Option Addr) (c c' : Nat) (w : World) (ha : ItmSl w A a) (hb : ItmSl w B b) (hv : (vI a && vI b) = false) : Calls Tryz.prog 18 #[.slice A a.length c, .slice B b.length c'] w (BilPost (cmL a b) (cmE a b) w) := by
  have V1 := hide (fun W h => rvalid48_any a A c W h)
  have V2 := hide (fun W h => rvalid48_any b B c' W h)
  unfold RetW at V1 V2
  have H1 := hide ha
  have H2 := hide hb
  have E1 : cmE a b = 1 := by unfold cmE; rw [hv]; rfl
  have M1 : cmL a b = [] := by unfold cmL; rw [hv]; rfl
  have HP := hide (fun W (h : Below w.heap.size w W) => (show BilPost (cmL a b) (cmE a b) w (.returned (.tuple #[.slice none 0 0, .int .i64 1])) W from ⟨h, none, 0, by rw [M1, E1]; rfl, by rw [M1]; exact ItmSl.nil _ _⟩))
  generalize vI a = b1 at *
  generalize vI b = b2 at *
  have ways : b1 = false ∨ (b1 = true ∧ b2 = false) := by cases b1 <;> cases b2 <;> simp at hv ⊢
  clear ha hb hv E1 M1
  rcases ways with rfl | ⟨rfl, rfl⟩
  · go_enter Tryz.func18, Tryz.ntmps18
    go_wp2_with fail
    refine (V1.out _ H1.out).mono ?_
    rintro e w1 ⟨rfl, hb⟩
    have HQ := hide (HP.out _ hb)
    clear hb HP
    go_wp2
    go_ret2
    exact HQ.out
  · go_enter Tryz.func18, Tryz.ntmps18
    go_wp2_with fail
    refine (V1.out _ H1.out).mono ?_
    rintro e w1 ⟨rfl, hb⟩
    have B1 := hide hb
    clear hb
    go_wp2_with fail
    refine (V2.out _ (H2.out.below B1.out)).mono ?_
    rintro e w2 ⟨rfl, hb⟩
    have HQ := hide (HP.out _ (below_via B1.out B1.out.size hb))
    clear hb HP
    go_wp2
    go_ret2
    exact HQ.out
set_option maxHeartbeats 1000000 in
theorem rcompare_full (a b : List Itm) (A B : Option Addr) (c c' : Nat) (w : World) (ha : ItmSl w A a) (hb : ItmSl w B b) (hv : (vI a && vI b) = true) (hn : 1000 < a.length + b.length) : Calls Tryz.prog 18 #[.slice A a.length c, .slice B b.length c'] w (BilPost (cmL a b) (cmE a b) w) := by
  have V1 := hide (fun W h => rvalid48_any a A c W h)
  have V2 := hide (fun W h => rvalid48_any b B c' W h)
  unfold RetW at V1 V2
  have H1 := hide ha
  have H2 := hide hb
  have E1 : cmE a b = 4 := by unfold cmE; rw [if_pos hv, if_pos hn]
  have M1 : cmL a b = [] := by unfold cmL; rw [if_pos hv, if_pos hn]
  have HP := hide (fun W (h : Below w.heap.size w W) => (show BilPost (cmL a b) (cmE a b) w (.returned (.tuple #[.slice none 0 0, .int .i64 4])) W from ⟨h, none, 0, by rw [M1, E1]; rfl, by rw [M1]; exact ItmSl.nil _ _⟩))
  rw [Bool.and_eq_true] at hv
  have l1 := (vI_iff.1 hv.1).1
  have l2 := (vI_iff.1 hv.2).1
  rw [hv.1] at V1
  rw [hv.2] at V2
  have w1 : IntKind.i64.wrap ((a.length : Int) + (b.length : Int)) = (a.length : Int) + (b.length : Int) := IntWalk.i64_in _ (by omega)
  have g1 : decide (1000 < (a.length : Int) + (b.length : Int)) = true := decide_eq_true (by omega)
  clear ha hb hv E1 M1
  go_enter Tryz.func18, Tryz.ntmps18
  go_wp2_with fail
  refine (V1.out _ H1.out).mono ?_
  rintro e w1 ⟨rfl, hb⟩
  have B1 := hide hb
  clear hb
  go_wp2_with fail
  refine (V2.out _ (H2.out.below B1.out)).mono ?_
  rintro e w2 ⟨rfl, hb⟩
  have HQ := hide (HP.out _ (below_via B1.out B1.out.size hb))
  clear hb HP
  go_wp2
  go_ret2
  exact HQ.out
set_option maxRecDepth 100000 in
set_option maxHeartbeats 4000000 in
theorem rcompare_ok (a b : List Itm) (A B : Option Addr) (c c' : Nat) (w : World) (ha : ItmSl w A a) (hb : ItmSl w B b) (hv : (vI a && vI b) = true) (hn : ¬ 1000 < a.length + b.length) : Calls Tryz.prog 18 #[.slice A a.length c, .slice B b.length c'] w (BilPost (cmL a b) (cmE a b) w) := by
  obtain ⟨i0, hi0, hz0, hz1, hz2⟩ := info_parts itm_info
  have V1 := hide (fun W h => rvalid48_any a A c W h)
  have V2 := hide (fun W h => rvalid48_any b B c' W h)
  unfold RetW at V1 V2
  have H1 := hide ha
  have H2 := hide hb
  have E1 : cmE a b = mgE (b ++ oppL a) := by unfold cmE; rw [if_pos hv, if_neg hn]
  have M1 : cmL a b = mgL (b ++ oppL a) := by unfold cmL; rw [if_pos hv, if_neg hn]
  rw [Bool.and_eq_true] at hv
  obtain ⟨l1, v1⟩ := vI_iff.1 hv.1
  obtain ⟨l2, v2⟩ := vI_iff.1 hv.2
  rw [hv.1] at V1
  rw [hv.2] at V2
  have LN : (b ++ oppL a).length ≤ 1000 := by simp [oppL]; omega
  have IT : ∀ x ∈ b ++ oppL a, itB x = true := fun x hx => by
    rcases List.mem_append.1 hx with h | h
    · exact v2 x h
    · obtain ⟨y, hy, rfl⟩ := List.mem_map.1 h
      exact itB_opp (v1 y hy)
  have vS : vI (b ++ oppL a) = true := vI_iff.2 ⟨LN, IT⟩
  have ME : meE (b ++ oppL a) = cmE a b := by rw [E1]; unfold meE; rw [if_pos vS]
  have MM : meL (b ++ oppL a) = cmL a b := by rw [M1]; unfold meL; rw [if_pos vS]
  have NM : Hid (∀ i (h : i < (b ++ oppL a).length), (b ++ oppL a)[i].nm.size ≤ maxLen) := hide (fun i hi => by
    rcases List.mem_append.1 (List.getElem_mem hi) with h | h
    · obtain ⟨j, hj, e⟩ := List.mem_iff_getElem.1 h
      rw [← e]; exact hb.1.2 j hj
    · obtain ⟨y, hy, e⟩ := List.mem_map.1 h
      obtain ⟨j, hj, rfl⟩ := List.mem_iff_getElem.1 hy
      rw [← e]; exact ha.1.2 j hj)
  have OP := hide (fun W h => ropp_any a A c W h v1 l1)
  have MG := hide (fun A cap W h => rmerge_any (b ++ oppL a) A cap W h)
  rw [ME, MM] at MG
  have lo : (oppL a).length ≤ 1000 := by simp [oppL]; omega
  have w1 : IntKind.i64.wrap ((a.length : Int) + (b.length : Int)) = (a.length : Int) + (b.length : Int) := IntWalk.i64_in _ (by omega)
  have g1 : decide (1000 < (a.length : Int) + (b.length : Int)) = false := decide_eq_false (by omega)
  unfold BilPost at MG
  unfold ItmPost at OP
  clear ha hb hv E1 M1 v1 v2 IT LN vS ME MM
  generalize cmL a b = ML at *
  generalize cmE a b = E at *
  have f4b := flatItm_one b
  have f4a := flatItm_one (oppL a)
  have FA := hide (flatItm_append b (oppL a))
  have LA : Hid ((b ++ oppL a).length = b.length + (oppL a).length) := hide (by simp)
  generalize oppL a = O at *
  go_enter Tryz.func18, Tryz.ntmps18
  go_wp2_with fail
  refine (V1.out _ H1.out).mono ?_
  rintro e w1 ⟨rfl, hb⟩
  have B1 := hide hb
  clear hb
  go_wp2_with fail
  refine (V2.out _ (H2.out.below B1.out)).mono ?_
  rintro e w2 ⟨rfl, hb⟩
  have B2 := hide (below_via B1.out B1.out.size hb)
  clear hb B1 V1 V2
  have wl2 := B2.out.size
  have BA := hide ((Below.refl w2.heap.size w2).alloc (Nat.le_refl _) (.cells #[] 54))
  have RB := hide (reads_itm ((H2.out.below B2.out).below BA.out))
  have f1 : 0 + b.length ≤ maxLen := by unfold maxLen; omega
  have f2 : (0 + b.length) * 32 ≤ 140737488355328 := by omega
  have f5 : w2.heap.size ≤ (w2.alloc (.cells #[] 54)).heap.size := by simp
  have RM := hide (World.ownsRow_made (base := w2.heap.size) (e := 54) (size := 3) w2 #[] 0 (Nat.le_refl _) (Nat.zero_le _) rfl)
  go_wp2_with (at_builtin; refine wpList_append_any _ rfl _ _ 40 rfl w2.heap.size 54 i0 (.agg #[.string ⟨#[]⟩, .int .i64 0, .int .i64 0]) 3 32 Tryz.underlying40 hi0 hz0 hz1 hz2 rfl (by decide) _ 0 _ rfl RM.out _ B b.length c' (flatItm b) rfl RB.out f4b f1 f2 f5 ?_; intro v3 w3 hown3 hgrow hnil)
  have B3 := hide (BA.out.grown hgrow BA.out.size (fun k hk => Nat.le_of_eq (Option.some.inj (show some w2.heap.size = some k from hk))))
  have R3 := hide (show w3.ownsRow w2.heap.size 54 3 v3 b.length (flatItm b) by simpa using hown3)
  have B30 := hide (below_via B2.out wl2 B3.out)
  clear hown3 hgrow hnil BA RB RM f1 f2 f5 f4b
  refine (OP.out _ (H1.out.below B30.out)).mono ?_
  rintro e w4 ⟨hb, A4, c4, rfl, IS⟩
  have B4 := hide (below_via B3.out B3.out.size hb)
  have R4 := hide (row_below R3.out hb)
  have RO := hide (reads_itm IS)
  have f1 : b.length + O.length ≤ maxLen := by unfold maxLen; omega
  have f2 : (b.length + O.length) * 32 ≤ 140737488355328 := by omega
  have f5 : w2.heap.size ≤ w4.heap.size := B4.out.size
  clear hb IS B3 R3 B30 OP
  go_wp2_with (at_builtin; refine wpList_append_any _ rfl _ _ 40 rfl w2.heap.size 54 i0 (.agg #[.string ⟨#[]⟩, .int .i64 0, .int .i64 0]) 3 32 Tryz.underlying40 hi0 hz0 hz1 hz2 rfl (by decide) _ b.length (flatItm b) rfl R4.out _ A4 O.length c4 (flatItm O) rfl RO.out f4a f1 f2 f5 ?_; intro v5 w5 hown5 hgrow hnil)
  have B5 := hide (below_via B2.out wl2 (B4.out.grown hgrow B4.out.size (fun j hj => (R4.out.lt j hj).1)))
  have R5 := hide (show w5.ownsRow w2.heap.size 54 3 v5 (b ++ O).length (flatItm (b ++ O)) by rw [FA.out, LA.out]; exact hown5)
  clear hown5 hgrow hnil B4 R4 RO f4a FA LA
  obtain ⟨A6, c6, e6, IS⟩ := ItmSl.of_row R5.out NM.out
  have e6 : _ = Value.slice A6 (b ++ O).length c6 := e6
  subst e6
  have MGk := hide (MG.out A6 c6 _ IS)
  clear IS R5 MG NM
  generalize (b ++ O).length = n at *
  refine MGk.out.mono ?_
  rintro e w6 ⟨hb, A2, c2, rfl, hs⟩
  have HP := hide (show BilPost ML E w (.returned (.tuple #[.slice A2 ML.length c2, .int .i64 E])) w6 from ⟨below_via B5.out B5.out.size hb, A2, c2, rfl, hs⟩)
  clear hb hs
  go_wp2
  go_ret2
  exact HP.out
theorem rcompare_any (a b : List Itm) (A B : Option Addr) (c c' : Nat) (w : World) (ha : ItmSl w A a) (hb : ItmSl w B b) : Calls Tryz.prog 18 #[.slice A a.length c, .slice B b.length c'] w (BilPost (cmL a b) (cmE a b) w) := by
  cases hv : (vI a && vI b) with
  | false => exact rcompare_inv a b A B c c' w ha hb hv
  | true =>
    by_cases hn : 1000 < a.length + b.length
    · exact rcompare_full a b A B c c' w ha hb hv hn
    · exact rcompare_ok a b A B c c' w ha hb hv hn
set_option maxRecDepth 100000 in
set_option maxHeartbeats 1000000 in
theorem equalM_any (l : List Itm) (A B : Option Addr) (cap cap' : Nat) (w : World) (hl : ItmSl w A l) (hm : ItmSl w B l) :
    Calls Tryz.prog 19 #[.slice A l.length cap, .slice B l.length cap'] w fun e w' => e = .returned (.bool true) ∧ Below w.heap.size w w' := by
  have hlen : l.length ≤ 9223372036854775807 := by have := hl.1.1; unfold maxLen at this; omega
  have H := hide hl
  have H' := hide hm
  clear hl hm
  go_enter Tryz.func19, Tryz.ntmps19
  go_wp2
  go_loopw [13] (fun v wr => ∃ k : Nat, k ≤ l.length ∧ v = .int .i64 k ∧ Below w.heap.size w wr) (fun v _ => l.length - (intOf v).toNat)
  case atStart => exact ⟨0, Nat.zero_le _, rfl, Below.refl _ _⟩
  case round =>
    obtain ⟨k, hk, rfl, hb⟩ := hrel
    by_cases hlt : k < l.length
    · obtain ⟨b, off, rfl, hbl, hat⟩ := (H.out.below hb).2 (by omega)
      obtain ⟨b', off', rfl, hbl', hat'⟩ := (H'.out.below hb).2 (by omega)
      obtain ⟨c0, c1, c2⟩ := hat k hlt
      obtain ⟨d0, d1, d2⟩ := hat' k hlt
      have g0 : (0 : Int) ≤ (k : Int) := by omega
      have g1 : (k : Int) < (l.length : Int) := by omega
      clear hat hat'
      generalize l[k] = c at *
      have HB := hide hb
      clear hb
      go_wp2
      go_quiet (fail)
      go_wp2
      go_roundw
      case rel => exact ⟨k + 1, by omega, by go_num, below_drewN HB.out _⟩
      case measure => simp [intOf]; omega
    · have HB := hide hb
      clear hb
      go_wp2
      go_ret
      exact ⟨rfl, HB.out⟩
set_option maxHeartbeats 1000000 in
theorem many1_any (x : Itm) (w : World) (h : x.nm.size ≤ maxLen) : Calls Tryz.prog 43 #[x.val] w (RetW (.bool (decide (100 < x.nm.size))) w) := by
  have X := (Own.start w).alloc #[.string x.nm, .int .i64 x.am, .int .i64 x.pr] 54
  have hr := X.r1
  have h0 : x.nm.size ≤ 9223372036854775807 := by unfold maxLen at h; omega
  have XB := hide X.1
  clear X
  go_enter Tryz.func43, Tryz.ntmps43
  go_wp2
  go_ret
  exact ⟨ret_bool (decide_eq_decide.2 (by omega)), XB.out⟩
set_option maxHeartbeats 1000000 in
theorem many_any (l : List Itm) (A : Option Addr) (cap : Nat) (w : World) (hl : ItmSl w A l) : Calls Tryz.prog 12 #[.slice A l.length cap] w (SomeB w) := by
  have C := hide (fun W h => contM_any 43 (fun x => decide (100 < x.nm.size)) many1_any (fun d w => enters_of Tryz.func43 (by kernel_rfl) rfl _ w) l A cap W h)
  unfold RetW at C
  have HL := hide hl
  have hlen : l.length ≤ 9223372036854775807 := by have := hl.1.1; unfold maxLen at this; omega
  clear hl
  generalize (l.any fun x => decide (100 < x.nm.size)) = b at *
  have ways : (decide (30 < (l.length : Int)) = true ∧ decide ((l.length : Int) ≤ 1000) = true) ∨ (decide (30 < (l.length : Int)) = true ∧ decide ((l.length : Int) ≤ 1000) = false ∧ decide (2000 < (l.length : Int)) = true) ∨ (decide (30 < (l.length : Int)) = true ∧ decide ((l.length : Int) ≤ 1000) = false ∧ decide (2000 < (l.length : Int)) = false) ∨ (decide (30 < (l.length : Int)) = false ∧ decide (2000 < (l.length : Int)) = false) := by
    simp only [decide_eq_true_eq, decide_eq_false_iff_not]; omega
  rcases ways with ⟨q1, q2⟩ | ⟨q1, q2, q3⟩ | ⟨q1, q2, q3⟩ | ⟨q1, q2⟩
  iterate 2
    · go_enter Tryz.func12, Tryz.ntmps12
      go_wp2
      go_ret
      exact ⟨_, rfl, Below.refl _ _⟩
  all_goals
    go_enter Tryz.func12, Tryz.ntmps12
    go_wp2_with fail
    refine (C.out _ HL.out).mono ?_
    rintro e w1 ⟨rfl, hb⟩
    have HB := hide hb
    clear hb
    go_wp2
    go_ret
    exact ⟨_, rfl, HB.out⟩
set_option maxRecDepth 100000 in
set_option maxHeartbeats 4000000 in
theorem bills_law (a b : List Itm) (A B : Option Addr) (c c' : Nat) (w : World) (ha : ItmSl w A a) (hb : ItmSl w B b) (ht : Lib.TabIs Tryz.prog w "internal/strconv.uint64pow10" .u64 Lib.pow10Tab) :
    Calls Tryz.prog 5 #[.slice A a.length c, .slice B b.length c'] w (RetW (.bool true) w) := by
  have AW := hide (fun W h => awake48_any W h)
  have M1 := hide (fun W h => many_any a A c W h)
  have M2 := hide (fun W h => many_any b B c' W h)
  have C1 := hide (fun W h => cobill_any a A c W h)
  have C2 := hide (fun W h => rbill_any a A c W h)
  have C3 := hide (fun W h => coMerge_any a A c W h)
  have C4 := hide (fun W h => rmerge_any a A c W h)
  have C5 := hide (fun W h h' => coCompare_any a b A B c c' W h h')
  have C6 := hide (fun W h h' => rcompare_any a b A B c c' W h h')
  have EQ1 := hide (fun A B c c' W h h' => equalM_any (meL a) A B c c' W h h')
  have EQ2 := hide (fun A B c c' W h h' => equalM_any (cmL a b) A B c c' W h h')
  unfold RetW at AW C1 C2
  unfold BilPost at C3 C4 C5 C6
  have HA := hide ha
  have HB := hide hb
  have HT := hide ht
  clear ha hb ht
  generalize meL a = L1 at *
  generalize meE a = E1 at *
  generalize cmL a b = L2 at *
  generalize cmE a b = E2 at *
  generalize biV a = V0 at *
  generalize biE a = E0 at *
  have x1 : (V0 == V0) = true := by simp
  have x2 : (E0 == E0) = true := by simp
  have x3 : (E1 == E1) = true := by simp
  have x4 : (E2 == E2) = true := by simp
  go_enter Tryz.func5, Tryz.ntmps5
  go_wp2_with fail
  refine (AW.out _ HT.out).mono ?_
  rintro e w1 ⟨rfl, hb⟩
  have K1 := hide hb
  clear hb
  go_wp2_with fail
  refine (M1.out _ (HA.out.below K1.out)).mono ?_
  rintro e w2 ⟨b1, rfl, hb⟩
  have K2 := hide (below_via K1.out K1.out.size hb)
  clear hb K1
  cases b1 with
  | true =>
    go_wp2
    go_ret
    exact ⟨rfl, K2.out⟩
  | false =>
    go_wp2_with fail
    refine (M2.out _ (HB.out.below K2.out)).mono ?_
    rintro e w3 ⟨b2, rfl, hb⟩
    have K3 := hide (below_via K2.out K2.out.size hb)
    clear hb K2
    cases b2 with
    | true =>
      go_wp2
      go_ret
      exact ⟨rfl, K3.out⟩
    | false =>
      go_wp2_with fail
      refine (C1.out _ (HA.out.below K3.out)).mono ?_
      rintro e w4 ⟨rfl, hb⟩
      have K4 := hide (below_via K3.out K3.out.size hb)
      clear hb K3
      go_wp2_with fail
      refine (C2.out _ (HA.out.below K4.out)).mono ?_
      rintro e w5 ⟨rfl, hb⟩
      have K5 := hide (below_via K4.out K4.out.size hb)
      clear hb K4
      go_wp2_with fail
      refine (C3.out _ (HA.out.below K5.out)).mono ?_
      rintro e w6 ⟨hb, A3, c3, rfl, s3⟩
      have K6 := hide (below_via K5.out K5.out.size hb)
      have S3 := hide s3
      clear hb K5 s3
      go_wp2_with fail
      refine (C4.out _ (HA.out.below K6.out)).mono ?_
      rintro e w7 ⟨hb, A4, c4, rfl, s4⟩
      have K7 := hide (below_via K6.out K6.out.size hb)
      have S4 := hide s4
      replace S3 := hide (S3.out.below hb)
      clear hb K6 s4
      go_wp2_with fail
      refine (C5.out _ (HA.out.below K7.out) (HB.out.below K7.out)).mono ?_
      rintro e w8 ⟨hb, A5, c5, rfl, s5⟩
      have K8 := hide (below_via K7.out K7.out.size hb)
      have S5 := hide s5
      replace S3 := hide (S3.out.below hb)
      replace S4 := hide (S4.out.below hb)
      clear hb K7 s5
      go_wp2_with fail
      refine (C6.out _ (HA.out.below K8.out) (HB.out.below K8.out)).mono ?_
      rintro e w9 ⟨hb, A6, c6, rfl, s6⟩
      have K9 := hide (below_via K8.out K8.out.size hb)
      have S6 := hide s6
      replace S3 := hide (S3.out.below hb)
      replace S4 := hide (S4.out.below hb)
      replace S5 := hide (S5.out.below hb)
      clear hb K8 s6
      go_wp2_with fail
      refine (EQ1.out _ _ _ _ _ S3.out S4.out).mono ?_
      rintro e w10 ⟨rfl, hb⟩
      have K10 := hide (below_via K9.out K9.out.size hb)
      replace S5 := hide (S5.out.below hb)
      replace S6 := hide (S6.out.below hb)
      clear hb K9
      go_wp2_with fail
      refine (EQ2.out _ _ _ _ _ S5.out S6.out).mono ?_
      rintro e w11 ⟨rfl, hb⟩
      have K11 := hide (below_via K10.out K10.out.size hb)
      clear hb K10
      go_wp2
      go_ret
      exact ⟨rfl, K11.out⟩
end Go.Proofs.YtbmocghfpcfmhaaGreatDoor

namespace Go.Proofs.YtbmocghfpcfmhaaGreatDoor
open Go.RowKit Go.ChangeShapes Go.WideShapes Go.ChangeAt

theorem listI_of {α : Type} {P : Nat → α → Prop} : ∀ (n : Nat), (∀ i, i < n → ∃ x, P i x) → ∃ l : List α, l.length = n ∧ ∀ i (h : i < l.length), P i l[i]
  | 0, _ => ⟨[], rfl, fun i h => by simp at h⟩
  | n + 1, h => by
    obtain ⟨l, hl, hp⟩ := listI_of n (fun i hi => h i (by omega))
    obtain ⟨x, hx⟩ := h n (by omega)
    refine ⟨l ++ [x], by simp [hl], fun i hi => ?_⟩
    by_cases k : i < l.length
    · rw [List.getElem_append_left k]; exact hp i k
    · have e : i = n := by simp at hi; omega
      subst e
      subst hl
      simpa using hx
section
variable {H : Type} {enc : TypeId × Value → H} {W : World} {v : Value} {d : DataW H} {p : List MemPlace} {b0 : Nat}
theorem addI_plain (b off n : Nat) : (⟨b, off, none⟩ : Addr).add n = ⟨b, off + n, none⟩ := by
  unfold Addr.add; split <;> simp_all
set_option maxRecDepth 100000 in
theorem open_itmS (hv : Value.okWide Tryz.prog W .any b0 40 v) (h : DataW.Trod enc Tryz.prog W 0 (fun _ => true) true 40 v d p) : ∃ A cap l, v = .slice A (List.length l) cap ∧ ItmSl W A l := by
  obtain ⟨a0, len, cap, rfl⟩ := okWide_slice Tryz.underlying40 hv
  obtain ⟨fuel, hf⟩ := h
  rcases open_slice_fields Tryz.underlying40 Tryz.underlying54 (by kernel_rfl) (by kernel_rfl) hf with ⟨hcs, _⟩ | ⟨a, len', cap', m, D, Pl, hcs, _, hl, hm, hmm, _, hat⟩
  · simp only [Value.cells, List.cons.injEq, Value.slice.injEq, and_true] at hcs
    obtain ⟨rfl, rfl, rfl⟩ := hcs
    exact ⟨none, 0, [], rfl, ⟨by simp, fun i h => by simp at h⟩, fun h => by simp at h⟩
  · simp only [Value.cells, List.cons.injEq, Value.slice.injEq, and_true] at hcs
    obtain ⟨rfl, rfl, rfl⟩ := hcs
    simp only [if_true] at hmm
    subst hmm
    have hex : ∀ i, i < len → ∃ x : Itm, x.nm.size ≤ maxLen ∧ W.cell? (a.add (i * 3 + 0)) = some (.string x.nm) ∧ W.cell? (a.add (i * 3 + 1)) = some (.int .i64 x.am) ∧ W.cell? (a.add (i * 3 + 2)) = some (.int .i64 x.pr) := fun i hi => by
      obtain ⟨ys, n, _, _, _, hf⟩ := hat i (by omega)
      obtain ⟨v0, y0, hc0, _, ht0⟩ := hf 0 _ rfl
      obtain ⟨v1, y1, hc1, _, ht1⟩ := hf 1 _ rfl
      obtain ⟨v2, y2, hc2, _, ht2⟩ := hf 2 _ rfl
      obtain ⟨x0, e0, _, hs⟩ := DataW.trod_string Tryz.underlying9 ht0
      obtain ⟨x1, e1, _⟩ := DataW.trod_int Tryz.underlying3 ht1
      obtain ⟨x2, e2, _⟩ := DataW.trod_int Tryz.underlying3 ht2
      simp only [List.cons.injEq, and_true] at e0 e1 e2
      subst e0 e1 e2
      exact ⟨⟨x0, x1, x2⟩, hs, hc0, hc1, hc2⟩
    obtain ⟨l, hlen, hl'⟩ := listI_of len hex
    refine ⟨some a, m, l, by rw [hlen], ⟨by omega, fun i hi => (hl' i hi).1⟩, fun h0 => ?_⟩
    obtain ⟨b, off, spot⟩ := a
    have hspot : spot = none := by simpa [Addr.add] using World.cell?_spot (hl' 0 h0).2.1
    subst hspot
    simp only [addI_plain] at hl'
    refine ⟨b, off, rfl, lt_of_cell (p := ⟨b, off + (0 * 3 + 0), none⟩) (hl' 0 h0).2.1, fun i hi => ?_⟩
    obtain ⟨_, k0, k1, k2⟩ := hl' i hi
    exact ⟨by simpa using k0, by simpa [Nat.add_assoc] using k1, by simpa [Nat.add_assoc] using k2⟩
end
end Go.Proofs.YtbmocghfpcfmhaaGreatDoor
