/- For all bills the law returns true, and its arguments read as before. -/
import Derived.Test.YtbmocghfpcfmhaaGreatDoorPkCostsAdd1
import Derived.Test.YtbmocghfpcfmhaaGreatDoorPkCostsBills3
import Derived.Test.YtbmocghfpcfmhaaGreatDoorPkCostsTrenches25
import Derived.Test.YtbmocghfpcfmhaaGreatDoorPkCostsTrenches10
import Derived.Test.YtbmocghfpcfmhaaGreatDoorPkCostsTrenches24
import Derived.Test.YtbmocghfpcfmhaaGreatDoorCards
import Derived.Test.YtbmocghfpcfmhaaGreatDoorTie
namespace Go.Proofs.YtbmocghfpcfmhaaGreatDoor
open Go Go.RowKit Go.ChangeShapes Go.WideShapes Go.ChangeAt

set_option maxRecDepth 100000 in
theorem costsAdd_lifted (os : Os) (started : os.Started) (H : Type) (enc : TypeId × Value → H) :
    ReturnsInHanded {} Tryz.checked os 6 .any (fun w args => (Rows.costsAddSpec.pre enc Tryz.prog Tryz.f6 [] false w args ∧ laidMetH Tryz.prog Rows.costsAddRow.laid w) ∧ sizedMet enc Tryz.prog Tryz.f6 (OpenSpec.ofChange Rows.costsAddSpec) false w args) (Rows.costsAddSpec.post enc Tryz.prog Tryz.f6 false true false false) := by
  refine returnsInHanded_of_change_and (C := Tryz.checked) (X := fun w _ => laidMetH Tryz.prog Rows.costsAddRow.laid w) (fun _ _ _ hh h => h.of_heap hh) own started (by kernel_rfl) Tryz.func6
    (ChangeSpec.witness_shaped (enc := enc) (C := Tryz.checked) (os := os) (X := fun w _ => laidMetH Tryz.prog Rows.costsAddRow.laid w) false (World.doorLaid Tryz.prog 400 os) #[.slice none 0 0, .slice none 0 0] 8 rfl (World.shaped_of_RefB (by kernel_rfl) (by kernel_rfl)) (by kernel_rfl) (by kernel_rfl) (by kernel_rfl)
      (laidMetH_of_parts3 (fuel := 8) (laidMet_of_run' 8 (by kernel_rfl) (by kernel_rfl)) (by kernel_rfl) (by kernel_rfl))) ?_
  intro W base args ds gs before hval0 hW _ _ hL _
  have hval : ∀ (j : Nat) t v, Tryz.f6.params[j]? = some t → args[j]? = some v → Value.okWide Tryz.prog W .any base t v := hval0
  have hW' := hW
  obtain ⟨p, q, hA0, hV, rfl, hfz, hnd⟩ := hW
  have hA : DataW.TrodAll enc Tryz.prog W 0 (fun _ => true) true Tryz.f6.params.toList args.toList ds p := hA0
  rw [Tryz.params6] at hA hval
  obtain ⟨v0, vs0, d0, ds0, p0, q0, hargs, rfl, rfl, h0, r0⟩ := trodAll_cons hA
  obtain ⟨v1, vs1, d1, ds1, p1, q1, rfl, rfl, rfl, h1, r1⟩ := trodAll_cons r0
  obtain ⟨rfl, rfl, rfl⟩ := trodAll_nil r1
  obtain rfl : args = #[v0, v1] := by cases args; simp_all
  obtain ⟨A0, cap0, a0, rfl, w0⟩ := open_itmS (hval 0 40 v0 rfl rfl) h0
  obtain ⟨A1, cap1, a1, rfl, w1⟩ := open_itmS (hval 1 40 v1 rfl rfl) h1
  refine (add_law a0 a1 A0 A1 cap0 cap1 W w0 w1 (by rw [MakeChecks.laidMetH_plain _ _ _ (by kernel_rfl)] at hL; exact Lib.tabIs_of_head (g := 2) (t := 203) (e := 99) (n := 20) (by kernel_rfl) (by kernel_rfl) Tryz.underlying203 Tryz.underlying99 (by kernel_rfl) (by kernel_rfl) (laidMet.tail (laidMet.tail hL)))).mono fun e W' ⟨he, hb⟩ => ?_
  subst he
  exact ⟨_, rfl, law_post laidOut (by kernel_rfl) rfl 4 rfl Tryz.underlying4 (fun ds h => by match ds, h with | [_, _], _ => rfl) hW' hb⟩

theorem costsAdd_row : Rows.CostsAddSaid :=
  OpenClaim.holds_of_wide 6 Tryz.f6 rfl rfl rfl rfl rfl rfl rfl ⟨rfl, rfl, rfl, rfl, rfl⟩ rfl rfl rfl rfl rfl (by kernel_rfl) Tryz.func6 (by kernel_rfl)
    (of_decide_eq_true (by kernel_rfl)) (by unfold Func.isWrapper; first | (rw [if_pos (by decide +kernel)]; kernel_rfl) | (rw [if_neg (by decide +kernel)]; exact ⟨rfl, rfl⟩))
    (fun os started H enc _ => costsAdd_lifted os started H enc)

theorem costsAdd_holds : Rows.CostsAddCardSaid :=
  Claim7.holds_tied_plain_at .later [] [.data, .data, .data] true Rows.costsAddCard.stood.harness false
    costsAdd_row (fun _ h => by cases h) (by kernel_rfl) (fun _ h => by cases h) costsAdd_row_tie rfl ⟨rfl, rfl⟩ (by kernel_rfl) rfl
    (fun f fn hf hfn => by
      obtain rfl : f = 6 := Option.some.inj ((show Tryz.prog.funcNamed Rows.costsAddRow.func = some 6 by kernel_rfl).symm.trans hf) |>.symm
      obtain rfl : fn = Tryz.f6 := (Option.some.inj (Tryz.func6.symm.trans hfn)).symm
      exact ⟨by kernel_rfl, fun j t ht => by
        rw [Tryz.params6] at ht
        have hm : t ∈ [40, 40] := by simpa using Array.mem_of_getElem? ht
        have hall : ([40, 40].all fun u => !Tryz.prog.wantsStandIn u) = true := by kernel_rfl
        exact (show Tryz.prog.wantsStandIn t = false by simpa using List.all_eq_true.1 hall t hm)⟩)
    (by kernel_rfl)
end Go.Proofs.YtbmocghfpcfmhaaGreatDoor
