/- For every surface, all inlets and two classes the law returns true, and its arguments read as before. -/
import Derived.Test.YtaaadejamjbcbaaGreatDoorPkLanduseWhole18
import Derived.Test.YtaaadejamjbcbaaGreatDoorPkLanduseWhole3
import Derived.Lay
import Derived.Test.YtaaadejamjbcbaaGreatDoorCards
import Derived.Test.YtaaadejamjbcbaaGreatDoorTie
namespace Go.Proofs.YtaaadejamjbcbaaGreatDoor
open Go Go.RowKit Go.ChangeShapes Go.WideShapes Go.ChangeAt

theorem landuseWhole_txt {w : World} (h : laidMetH Tryz.prog Rows.landuseWholeRow.laid w) (hs : w.ShapedOpen Tryz.prog) : TxtW w := by
  rw [MakeChecks.laidMetH_plain _ _ _ (by kernel_rfl)] at h
  have h2 := laidMet.tail (laidMet.tail (h))
  have h3 := laidMet.tail (laidMet.tail h2)
  have h4 := laidMet.tail h3
  exact ⟨Lib.tabIs_of_head (g := 5) (t := 171) (e := 111) (n := 20) (by kernel_rfl) (by kernel_rfl) Tryz.underlying171 Tryz.underlying111 (by kernel_rfl) (by kernel_rfl) h2,
    cell_of_shapedOpen_int (zero := #[.int .i64 0]) (t := 3) hs (of_decide_eq_true (by kernel_rfl)) (by kernel_rfl) rfl (by kernel_rfl) (by kernel_rfl) Tryz.underlying3,
    laid_iface h4 (by kernel_rfl) (by kernel_rfl) Tryz.underlying140, laid_iface h3 (by kernel_rfl) (by kernel_rfl) Tryz.underlying140⟩
set_option maxRecDepth 100000 in
theorem landuseWhole_lifted (os : Os) (started : os.Started) (H : Type) (enc : TypeId × Value → H) :
    ReturnsInHanded {} Tryz.checked os 5 .any (fun w args => (Rows.landuseWholeSpec.pre enc Tryz.prog Tryz.f5 [] false w args ∧ laidMetH Tryz.prog Rows.landuseWholeRow.laid w) ∧ sizedMet enc Tryz.prog Tryz.f5 (OpenSpec.ofChange Rows.landuseWholeSpec) false w args) (Rows.landuseWholeSpec.post enc Tryz.prog Tryz.f5 false true false false) := by
  refine handed_shaped (C := Tryz.checked) (X := fun w _ => laidMetH Tryz.prog Rows.landuseWholeRow.laid w) (fun _ _ _ hh h => h.of_heap hh) own started (by kernel_rfl) Tryz.func5
    (ChangeSpec.witness_shaped (enc := enc) (C := Tryz.checked) (os := os) (X := fun w _ => laidMetH Tryz.prog Rows.landuseWholeRow.laid w) false (World.laidAll Tryz.prog os Rows.landuseWholeRow.laid) #[.agg #[.slice none 0 0, .slice none 0 0], .slice none 0 0, .int .u8 0, .int .u8 0] 8 (World.laidAll_os _ _ _) (World.shaped_of_ZipB (by kernel_rfl) (by kernel_rfl)) (by kernel_rfl) (by kernel_rfl) (by kernel_rfl)
      (by rw [MakeChecks.laidMetH_plain _ _ _ (by kernel_rfl)]; exact laidMet_laidAll _ (by kernel_rfl) (by kernel_rfl))) ?_
  intro W base args ds gs before hval0 hW hL hS
  have hval : ∀ (j : Nat) t v, Tryz.f5.params[j]? = some t → args[j]? = some v → Value.okWide Tryz.prog W .any base t v := hval0
  have hW' := hW
  obtain ⟨p, q, hA0, hV, rfl, hfz, hnd⟩ := hW
  have hA : DataW.TrodAll enc Tryz.prog W 0 (fun _ => true) true Tryz.f5.params.toList args.toList ds p := hA0
  rw [Tryz.params5] at hA hval
  obtain ⟨v0, vs0, d0, ds0, p0, q0, hargs, rfl, rfl, h0, r0⟩ := trodAll_cons hA
  obtain ⟨v1, vs1, d1, ds1, p1, q1, rfl, rfl, rfl, h1, r1⟩ := trodAll_cons r0
  obtain ⟨v2, vs2, d2, ds2, p2, q2, rfl, rfl, rfl, h2, r2⟩ := trodAll_cons r1
  obtain ⟨v3, vs3, d3, ds3, p3, q3, rfl, rfl, rfl, h3, r3⟩ := trodAll_cons r2
  obtain ⟨rfl, rfl, rfl⟩ := trodAll_nil r3
  obtain rfl : args = #[v0, v1, v2, v3] := by cases args; simp_all
  obtain ⟨a0, rfl, w0⟩ := open_mesh (hval 0 25 v0 rfl rfl) h0
  obtain ⟨A1, cap1, a1, rfl, w1⟩ := open_intS (hval 1 35 v1 rfl rfl) h1
  obtain ⟨a2, rfl, rfl, rfl, w2⟩ := open_int Tryz.underlying5 (hval 2 5 v2 rfl rfl) h2
  obtain ⟨a3, rfl, rfl, rfl, w3⟩ := open_int Tryz.underlying5 (hval 3 5 v3 rfl rfl) h3
  refine ((whole_law a0.1 a0.2 a1 A1 cap1 a2 a3 W w0 w1 (landuseWhole_txt hL hS) (u8W w2) (u8W w3))).mono fun e W' ⟨he, hb⟩ => ?_
  subst he
  exact ⟨_, rfl, law_post laidOut (by kernel_rfl) rfl 4 rfl Tryz.underlying4 (fun ds h => by match ds, h with | [_, _, _, _], _ => rfl) hW' hb⟩

theorem landuseWhole_row : Rows.LanduseWholeSaid :=
  OpenClaim.holds_of_wide 5 Tryz.f5 rfl rfl rfl rfl rfl rfl rfl ⟨rfl, rfl, rfl, rfl, rfl⟩ rfl rfl rfl rfl rfl (by kernel_rfl) Tryz.func5 (by kernel_rfl)
    (of_decide_eq_true (by kernel_rfl)) (by unfold Func.isWrapper; first | (rw [if_pos (by decide +kernel)]; kernel_rfl) | (rw [if_neg (by decide +kernel)]; exact ⟨rfl, rfl⟩))
    (fun os started H enc _ => landuseWhole_lifted os started H enc)

theorem landuseWhole_holds : Rows.LanduseWholeCardSaid :=
  Claim7.holds_tied_plain_at .later [] [.data, .data, .data, .data, .sentinel, .sentinel, .pinned] true Rows.landuseWholeCard.stood.harness true
    landuseWhole_row (fun _ h => by cases h) (by kernel_rfl) (fun _ h => by cases h) landuseWhole_row_tie rfl ⟨rfl, rfl⟩ (by kernel_rfl) rfl
    (fun f fn hf hfn => by
      obtain rfl : f = 5 := Option.some.inj ((show Tryz.prog.funcNamed Rows.landuseWholeRow.func = some 5 by kernel_rfl).symm.trans hf) |>.symm
      obtain rfl : fn = Tryz.f5 := (Option.some.inj (Tryz.func5.symm.trans hfn)).symm
      exact ⟨by kernel_rfl, fun j t ht => by
        rw [Tryz.params5] at ht
        have hm : t ∈ [25, 35, 5, 5] := by simpa using Array.mem_of_getElem? ht
        have hall : ([25, 35, 5, 5].all fun u => !Tryz.prog.wantsStandIn u) = true := by kernel_rfl
        exact (show Tryz.prog.wantsStandIn t = false by simpa using List.all_eq_true.1 hall t hm)⟩)
    (by kernel_rfl)
end Go.Proofs.YtaaadejamjbcbaaGreatDoor
