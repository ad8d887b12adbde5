/- Parts of one proof, joined: The reference's overlap, sameSide, corners: what each returns; nothing that was there is turned (printed by gen_mro.py). The reference's Decimal of a small number: it returns some text; nothing that was there is turned. Rows of spots and of faces of the call's own, and slices.Clone at both; nothing that was there is turned. What the reference's Check holds on its way: rows of findings, the faces that are right; what each step keeps. -/
import Derived.Test.YtbmocghfpcfmhaaGreatDoorPkCostsTrenches18
import Derived.Test.YtbmocghfpcfmhaaGreatDoorPkCostsTrenches3
import Derived.Test.YtbmocghfpcfmhaaGreatDoorPkCostsTrenches11
import Derived.Test.YtbmocghfpcfmhaaGreatDoorPkCostsTrenches2
import Derived.Lib.SliceRun
import Derived.Test.YtbmocghfpcfmhaaGreatDoorPkCostsTrenches17
import Derived.Test.YtbmocghfpcfmhaaGreatDoorPkCostsTrenches13
namespace Go.Proofs.YtbmocghfpcfmhaaGreatDoor
open Go Go.RowKit

set_option maxRecDepth 100000 in
set_option maxHeartbeats 2000000 in
theorem mrover_any (m : Msh) (a : MshA) (fa fb fc ga gb gc : Nat) (fk gk : Int) (w : World) (hm : MshSl w m a) (ha : fa < m.ss.length) (hb : fb < m.ss.length) (hc : fc < m.ss.length) (ha' : ga < m.ss.length) (hb' : gb < m.ss.length) (hc' : gc < m.ss.length)
    (T U : Tri) (eT : triA m.ss ⟨fa, fb, fc, fk⟩ = T) (eU : triA m.ss ⟨ga, gb, gc, gk⟩ = U) (hT : T.in) (hU : U.in) :
    Calls Tryz.prog 79 #[m.val a, .agg #[.int .i64 fa, .int .i64 fb, .int .i64 fc, .int .i64 fk], .agg #[.int .i64 ga, .int .i64 gb, .int .i64 gc, .int .i64 gk]] w (RetW (.bool (ovlB T U)) w) := by
  have TF := hide (fun W h => mrtri_any m a fa fb fc fk W h ha hb hc)
  have TG := hide (fun W h => mrtri_any m a ga gb gc gk W h ha' hb' hc')
  rw [eT] at TF
  rw [eU] at TG
  unfold TriPost at TF TG
  have P1 := hide (fun W g1 g2 h1 h2 => mrapart_any T U g1 g2 W hT hU h1 h2)
  have P2 := hide (fun W g1 g2 h1 h2 => mrapart_any U T g1 g2 W hU hT h1 h2)
  unfold RetW at P1 P2
  have E : Hid (ovlB T U = (!sepB T U && !sepB U T)) := hide rfl
  have HM := hide hm
  obtain ⟨ss, fs⟩ := m
  obtain ⟨A1, c1, A2, c2⟩ := a
  generalize sepB T U = b1 at *
  generalize sepB U T = b2 at *
  have X := (((Own.start w).alloc #[.slice A1 ss.length c1, .slice A2 fs.length c2] 25).alloc #[.int .i64 fa, .int .i64 fb, .int .i64 fc, .int .i64 fk] 62).alloc #[.int .i64 ga, .int .i64 gb, .int .i64 gc, .int .i64 gk] 62
  simp only [World.size_alloc] at X
  have hr := X.r3
  have HX := hide X
  clear hm ha hb hc ha' hb' hc' eT eU hT hU X
  show Calls _ _ #[.agg #[.slice A1 ss.length c1, .slice A2 fs.length c2], _, _] w _
  go_enter Tryz.func79, Tryz.ntmps79
  go_wp2
  generalize (((w.alloc (.cells #[.slice A1 ss.length c1, .slice A2 fs.length c2] 25)).alloc (.cells #[.int .i64 fa, .int .i64 fb, .int .i64 fc, .int .i64 fk] 62)).alloc (.cells #[.int .i64 ga, .int .i64 gb, .int .i64 gc, .int .i64 gk] 62)) = W0 at *
  have HMW := hide (fun W' (h : Below W0.heap.size W0 W') => HM.out.below (below_via HX.out.1 HX.out.1.size h))
  go_region_held3 (fun w' => w'.cell? ⟨w.heap.size, 0, none⟩ = some (.slice A1 ss.length c1) ∧ w'.cell? ⟨w.heap.size, 1, none⟩ = some (.slice A2 fs.length c2) ∧ w'.cell? ⟨w.heap.size + 1, 0, none⟩ = some (.int .i64 fa) ∧ w'.cell? ⟨w.heap.size + 1, 1, none⟩ = some (.int .i64 fb) ∧ w'.cell? ⟨w.heap.size + 1, 2, none⟩ = some (.int .i64 fc) ∧ w'.cell? ⟨w.heap.size + 1, 3, none⟩ = some (.int .i64 fk) ∧ w'.cell? ⟨w.heap.size + 1 + 1, 0, none⟩ = some (.int .i64 ga) ∧ w'.cell? ⟨w.heap.size + 1 + 1, 1, none⟩ = some (.int .i64 gb) ∧ w'.cell? ⟨w.heap.size + 1 + 1, 2, none⟩ = some (.int .i64 gc) ∧ w'.cell? ⟨w.heap.size + 1 + 1, 3, none⟩ = some (.int .i64 gk)) (go_keep)
    (first
      | (go_at_call 124; ((with_reducible refine Calls.mono (TF.out _ (HMW.out _ (by go_grown))) ?_); rintro e w1 ⟨g1, rfl, hB, -, hb⟩); have hw := below_go (show Below W0.heap.size W0 _ from by go_grown) hb; have hr2 := (HX.out.to hw).r3; (first | (replace K2 := hide (K2.out.below hb)) | skip); have K1 := hide (TriB.of (t := T) hB); clear hb hB)
      | (go_at_call 124; ((with_reducible refine Calls.mono (TG.out _ (HMW.out _ (by go_grown))) ?_); rintro e w1 ⟨g2, rfl, hB, -, hb⟩); have hw := below_go (show Below W0.heap.size W0 _ from by go_grown) hb; have hr2 := (HX.out.to hw).r3; (first | (replace K1 := hide (K1.out.below hb)) | skip); have K2 := hide (TriB.of (t := U) hB); clear hb hB))
  all_goals
    have XB := hide (HX.out.to hw).1
    have B1 := K1
    have B2 := K2
    clear K1 K2 hw
    clear hr hr2 HX TF TG HMW
    cases b1
    · go_wp2_with fail
      refine (P1.out _ g1 g2 B1.out B2.out).mono ?_
      rintro e w2 ⟨rfl, hb⟩
      have XB2 := hide (below_via XB.out XB.out.size hb)
      replace B1 := hide (B1.out.below hb)
      replace B2 := hide (B2.out.below hb)
      clear hb
      go_wp2_with fail
      refine (P2.out _ g2 g1 B2.out B1.out).mono ?_
      rintro e w3 ⟨rfl, hb⟩
      have XB3 := hide (below_via XB2.out XB2.out.size hb)
      clear hb
      go_wp2
      go_ret
      exact ⟨ret_bool E.out.symm, XB3.out⟩
    · go_wp2_with fail
      refine (P1.out _ g1 g2 B1.out B2.out).mono ?_
      rintro e w2 ⟨rfl, hb⟩
      have XB2 := hide (below_via XB.out XB.out.size hb)
      clear hb
      go_wp2
      go_ret
      exact ⟨ret_bool E.out.symm, XB2.out⟩
theorem sd_cor (f g : Fce) {i k : Nat} (hi : i < 3) (hk : k < 3) : decide (sdA f i = sdA g k) = (decide (cor f i = cor g k) && decide (cor f (i + 1) = cor g (k + 1))) := by
  have e : ∀ (f : Fce) {i : Nat}, i < 3 → sdA f i = (cor f i, cor f (i + 1)) := fun f i hi => by
    obtain rfl | rfl | rfl : i = 0 ∨ i = 1 ∨ i = 2 := by omega
    all_goals rfl
  rw [e f hi, e g hk, Bool.eq_iff_iff]
  simp
theorem ss_yes {f g : Fce} {i k : Nat} (hi : i < 3) (hk : k < 3) (h1 : cor f i = cor g k) (h2 : cor f (i + 1) = cor g (k + 1)) : ssB f g = true := by
  unfold ssB
  rw [List.any_eq_true]
  refine ⟨i, List.mem_range.2 hi, ?_⟩
  rw [List.any_eq_true]
  exact ⟨k, List.mem_range.2 hk, by rw [sd_cor f g hi hk]; simp [h1, h2]⟩
theorem ss_no {f g : Fce} (h : ∀ i, i < 3 → ∀ k, k < 3 → ¬ (cor f i = cor g k ∧ cor f (i + 1) = cor g (k + 1))) : ssB f g = false := by
  cases e : ssB f g with
  | false => rfl
  | true =>
    unfold ssB at e
    rw [List.any_eq_true] at e
    obtain ⟨i, hi, e⟩ := e
    rw [List.any_eq_true] at e
    obtain ⟨k, hk, e⟩ := e
    rw [sd_cor f g (List.mem_range.1 hi) (List.mem_range.1 hk)] at e
    exact absurd (by simpa using e) (h i (List.mem_range.1 hi) k (List.mem_range.1 hk))
set_option maxRecDepth 100000 in
set_option maxHeartbeats 2000000 in
theorem mrsame_any (fa fb fc fk ga gb gc gk : Int) (w : World) : Calls Tryz.prog 78 #[.agg #[.int .i64 fa, .int .i64 fb, .int .i64 fc, .int .i64 fk], .agg #[.int .i64 ga, .int .i64 gb, .int .i64 gc, .int .i64 gk]] w (RetW (.bool (ssB ⟨fa, fb, fc, fk⟩ ⟨ga, gb, gc, gk⟩)) w) := by
  have X := ((Own.start w).alloc #[.int .i64 fa, .int .i64 fb, .int .i64 fc, .int .i64 fk] 62).alloc #[.int .i64 ga, .int .i64 gb, .int .i64 gc, .int .i64 gk] 62
  rw [World.size_alloc] at X
  have CF := hide (fun W (k : Nat) (hk : k ≤ 3) => mrcorner_any fa fb fc fk k W hk)
  have CG := hide (fun W (k : Nat) (hk : k ≤ 3) => mrcorner_any ga gb gc gk k W hk)
  unfold RetW at CF CG
  have YES := hide (fun (i k : Nat) (hi : i < 3) (hk : k < 3) h1 h2 => ss_yes (f := ⟨fa, fb, fc, fk⟩) (g := ⟨ga, gb, gc, gk⟩) hi hk h1 h2)
  have NO := hide (fun h => ss_no (f := ⟨fa, fb, fc, fk⟩) (g := ⟨ga, gb, gc, gk⟩) h)
  generalize ssB ⟨fa, fb, fc, fk⟩ ⟨ga, gb, gc, gk⟩ = ans at *
  have HX := hide X
  clear X
  go_enter Tryz.func78, Tryz.ntmps78
  go_wp2
  go_loopw [5, 6] (fun v5 _ wr => ∃ i : Nat, i ≤ 3 ∧ v5 = .int .i64 i ∧ Hid (Own w wr [(w.heap.size + 1, 62, #[.int .i64 ga, .int .i64 gb, .int .i64 gc, .int .i64 gk]), (w.heap.size, 62, #[.int .i64 fa, .int .i64 fb, .int .i64 fc, .int .i64 fk])]) ∧ Hid (∀ j, j < i → ∀ k, k < 3 → ¬ (cor ⟨fa, fb, fc, fk⟩ j = cor ⟨ga, gb, gc, gk⟩ k ∧ cor ⟨fa, fb, fc, fk⟩ (j + 1) = cor ⟨ga, gb, gc, gk⟩ (k + 1)))) (fun v5 _ _ => 3 - (intOf v5).toNat)
  case atStart => exact ⟨0, by omega, rfl, HX, hide (fun j hj => by omega)⟩
  case round =>
    obtain ⟨i, hi, rfl, HO, HN⟩ := hrel
    clear HX
    by_cases h3 : i < 3
    · have d3 : decide ((i : Int) < 3) = true := decide_eq_true (by omega)
      go_wp2
      go_loopw [6] (fun v6 wr => ∃ k : Nat, k ≤ 3 ∧ v6 = .int .i64 k ∧ Hid (Own w wr [(w.heap.size + 1, 62, #[.int .i64 ga, .int .i64 gb, .int .i64 gc, .int .i64 gk]), (w.heap.size, 62, #[.int .i64 fa, .int .i64 fb, .int .i64 fc, .int .i64 fk])]) ∧ Hid (∀ j, j < k → ¬ (cor ⟨fa, fb, fc, fk⟩ i = cor ⟨ga, gb, gc, gk⟩ j ∧ cor ⟨fa, fb, fc, fk⟩ (i + 1) = cor ⟨ga, gb, gc, gk⟩ (j + 1)))) (fun v6 _ => 3 - (intOf v6).toNat)
      case atStart => exact ⟨0, by omega, rfl, HO, hide (fun j hj => by omega)⟩
      case round =>
        obtain ⟨k, hk, rfl, HO, HK⟩ := hrel
        by_cases k3 : k < 3
        · have d4 : decide ((k : Int) < 3) = true := decide_eq_true (by omega)
          have hr := HO.out.r2
          have s1 : IntKind.i64.wrap ((i : Int) + 1) = ((i + 1 : Nat) : Int) := by rw [Int.natCast_add]; exact IntWalk.i64_in _ (by omega)
          have s2 : IntKind.i64.wrap ((k : Int) + 1) = ((k + 1 : Nat) : Int) := by rw [Int.natCast_add]; exact IntWalk.i64_in _ (by omega)
          have A1 : Hid (∀ W : World, Calls Tryz.prog 126 #[.agg #[.int .i64 fa, .int .i64 fb, .int .i64 fc, .int .i64 fk], .int .i64 i] W fun e w' => e = .returned (.int .i64 (cor ⟨fa, fb, fc, fk⟩ i)) ∧ Below W.heap.size W w') := hide (fun W => CF.out W i (by omega))
          have A2 : Hid (∀ W : World, Calls Tryz.prog 126 #[.agg #[.int .i64 ga, .int .i64 gb, .int .i64 gc, .int .i64 gk], .int .i64 k] W fun e w' => e = .returned (.int .i64 (cor ⟨ga, gb, gc, gk⟩ k)) ∧ Below W.heap.size W w') := hide (fun W => CG.out W k (by omega))
          have A3 : Hid (∀ W : World, Calls Tryz.prog 126 #[.agg #[.int .i64 fa, .int .i64 fb, .int .i64 fc, .int .i64 fk], .int .i64 ((i + 1 : Nat) : Int)] W fun e w' => e = .returned (.int .i64 (cor ⟨fa, fb, fc, fk⟩ (i + 1))) ∧ Below W.heap.size W w') := hide (fun W => CF.out W (i + 1) (by omega))
          have A4 : Hid (∀ W : World, Calls Tryz.prog 126 #[.agg #[.int .i64 ga, .int .i64 gb, .int .i64 gc, .int .i64 gk], .int .i64 ((k + 1 : Nat) : Int)] W fun e w' => e = .returned (.int .i64 (cor ⟨ga, gb, gc, gk⟩ (k + 1))) ∧ Below W.heap.size W w') := hide (fun W => CG.out W (k + 1) (by omega))
          have YK := hide (YES.out i k h3 k3)
          have STEP := hide (fun (h : ¬ (cor ⟨fa, fb, fc, fk⟩ i = cor ⟨ga, gb, gc, gk⟩ k ∧ cor ⟨fa, fb, fc, fk⟩ (i + 1) = cor ⟨ga, gb, gc, gk⟩ (k + 1))) j (hj : j < k + 1) => (show ¬ (cor ⟨fa, fb, fc, fk⟩ i = cor ⟨ga, gb, gc, gk⟩ j ∧ cor ⟨fa, fb, fc, fk⟩ (i + 1) = cor ⟨ga, gb, gc, gk⟩ (j + 1)) by
            by_cases e : j = k
            · subst e; exact h
            · exact HK.out j (by omega)))
          have HKb := hide (And.intro hk hi)
          generalize cor ⟨fa, fb, fc, fk⟩ i = x1 at *
          generalize cor ⟨ga, gb, gc, gk⟩ k = x2 at *
          generalize cor ⟨fa, fb, fc, fk⟩ (i + 1) = x3 at *
          generalize cor ⟨ga, gb, gc, gk⟩ (k + 1) = x4 at *
          generalize hI1 : ((i + 1 : Nat) : Int) = I1 at *
          generalize hK1 : ((k + 1 : Nat) : Int) = K1 at *
          have HI1 := hide hI1
          have HK1 := hide hK1
          clear hI1 hK1 HK
          by_cases e1 : x1 = x2
          · have q1 : (x1 == x2) = true := by simpa using e1
            by_cases e2 : x3 = x4
            · have q2 : (x3 == x4) = true := by simpa using e2
              have E := hide (YK.out e1 e2)
              clear YK STEP e1 e2
              go_wp2_with fail
              have NE : Nonempty (OwnW w [(w.heap.size + 1, 62, #[.int .i64 ga, .int .i64 gb, .int .i64 gc, .int .i64 gk]), (w.heap.size, 62, #[.int .i64 fa, .int .i64 fb, .int .i64 fc, .int .i64 fk])]) := ⟨⟨_, HO.out⟩⟩
              have C1 := fun x : OwnW w [(w.heap.size + 1, 62, #[.int .i64 ga, .int .i64 gb, .int .i64 gc, .int .i64 gk]), (w.heap.size, 62, #[.int .i64 fa, .int .i64 fb, .int .i64 fc, .int .i64 fk])] => x.own.r2
              refine wp_region_own (w := w) (L := [(w.heap.size + 1, 62, #[.int .i64 ga, .int .i64 gb, .int .i64 gc, .int .i64 gk]), (w.heap.size, 62, #[.int .i64 fa, .int .i64 fb, .int .i64 fc, .int .i64 fk])]) (by kernel_rfl) (by kernel_rfl) HO.out ?_
              repeat (go_big_quiet_step ((rename_i x; first | with_reducible exact own_call (A1.out _) | with_reducible exact own_call (A2.out _) | with_reducible exact own_call (A3.out _) | with_reducible exact own_call (A4.out _))))
              refine wpQuiet_nil ?_
              rintro _ ⟨⟨W, HX⟩, rfl⟩
              go_wp2
              go_ret
              exact ⟨ret_bool E.out.symm, HX.1⟩
            · have q2 : (x3 == x4) = false := by simpa using e2
              have HK2 := hide (STEP.out (fun h => e2 h.2))
              clear YK STEP e1 e2
              go_wp2_with fail
              have NE : Nonempty (OwnW w [(w.heap.size + 1, 62, #[.int .i64 ga, .int .i64 gb, .int .i64 gc, .int .i64 gk]), (w.heap.size, 62, #[.int .i64 fa, .int .i64 fb, .int .i64 fc, .int .i64 fk])]) := ⟨⟨_, HO.out⟩⟩
              have C1 := fun x : OwnW w [(w.heap.size + 1, 62, #[.int .i64 ga, .int .i64 gb, .int .i64 gc, .int .i64 gk]), (w.heap.size, 62, #[.int .i64 fa, .int .i64 fb, .int .i64 fc, .int .i64 fk])] => x.own.r2
              refine wp_region_own (w := w) (L := [(w.heap.size + 1, 62, #[.int .i64 ga, .int .i64 gb, .int .i64 gc, .int .i64 gk]), (w.heap.size, 62, #[.int .i64 fa, .int .i64 fb, .int .i64 fc, .int .i64 fk])]) (by kernel_rfl) (by kernel_rfl) HO.out ?_
              repeat (go_big_quiet_step ((rename_i x; first | with_reducible exact own_call (A1.out _) | with_reducible exact own_call (A2.out _) | with_reducible exact own_call (A3.out _) | with_reducible exact own_call (A4.out _))))
              refine wpQuiet_nil ?_
              rintro _ ⟨⟨W, HX⟩, rfl⟩
              clear C1 NE s1 s2
              go_wp2
              go_roundw
              case rel => exact ⟨k + 1, by omega, by go_num, hide HX, HK2⟩
              case measure => simp [intOf]; omega
          · have q1 : (x1 == x2) = false := by simpa using e1
            have HK2 := hide (STEP.out (fun h => e1 h.1))
            clear YK STEP e1
            go_wp2_with fail
            have NE : Nonempty (OwnW w [(w.heap.size + 1, 62, #[.int .i64 ga, .int .i64 gb, .int .i64 gc, .int .i64 gk]), (w.heap.size, 62, #[.int .i64 fa, .int .i64 fb, .int .i64 fc, .int .i64 fk])]) := ⟨⟨_, HO.out⟩⟩
            have C1 := fun x : OwnW w [(w.heap.size + 1, 62, #[.int .i64 ga, .int .i64 gb, .int .i64 gc, .int .i64 gk]), (w.heap.size, 62, #[.int .i64 fa, .int .i64 fb, .int .i64 fc, .int .i64 fk])] => x.own.r2
            refine wp_region_own (w := w) (L := [(w.heap.size + 1, 62, #[.int .i64 ga, .int .i64 gb, .int .i64 gc, .int .i64 gk]), (w.heap.size, 62, #[.int .i64 fa, .int .i64 fb, .int .i64 fc, .int .i64 fk])]) (by kernel_rfl) (by kernel_rfl) HO.out ?_
            repeat (go_big_quiet_step ((rename_i x; first | with_reducible exact own_call (A1.out _) | with_reducible exact own_call (A2.out _) | with_reducible exact own_call (A3.out _) | with_reducible exact own_call (A4.out _))))
            refine wpQuiet_nil ?_
            rintro _ ⟨⟨W, HX⟩, rfl⟩
            clear C1 NE s1 s2
            go_wp2
            go_roundw
            case rel => exact ⟨k + 1, by omega, by go_num, hide HX, HK2⟩
            case measure => simp [intOf]; omega
        · obtain rfl : k = 3 := by omega
          have HN2 := hide (fun j (hj : j < i + 1) k (hk : k < 3) => (show ¬ (cor ⟨fa, fb, fc, fk⟩ j = cor ⟨ga, gb, gc, gk⟩ k ∧ cor ⟨fa, fb, fc, fk⟩ (j + 1) = cor ⟨ga, gb, gc, gk⟩ (k + 1)) by
            by_cases e : j = i
            · subst e; exact HK.out k hk
            · exact HN.out j (by omega) k hk))
          clear HK HN
          go_wp2
          go_roundw
          case rel => exact ⟨i + 1, by omega, by go_num, HO, HN2⟩
          case measure => simp [intOf]; omega
    · obtain rfl : i = 3 := by omega
      have E := hide (NO.out (fun i hi k hk => HN.out i hi k hk))
      go_wp2
      go_ret
      exact ⟨ret_bool E.out.symm, HO.out.1⟩
end Go.Proofs.YtbmocghfpcfmhaaGreatDoor

namespace Go.Proofs.YtbmocghfpcfmhaaGreatDoor
open Go Go.RowKit

theorem byte_convM (d : Nat) (hd : d < 10) (W : World) : (convert 175 9 (.slice (some ⟨W.heap.size, 0, none⟩) 1 1)).run Tryz.prog (W.alloc (.cells #[.int .u8 (48 + (d : Int))] 5)) = .ok (strV [UInt8.ofNat (48 + d)]) (W.alloc (.cells #[.int .u8 (48 + (d : Int))] 5)) := by
  have h := run_convert_bytes_back (P := Tryz.prog) (W.alloc (.cells #[.int .u8 (48 + (d : Int))] 5)) 175 9 5 ⟨W.heap.size, 0, none⟩ 1 [UInt8.ofNat (48 + d)] Tryz.underlying175 Tryz.underlying5 Tryz.underlying9 (fun j hj => by
    obtain rfl : j = 0 := by simpa using hj
    have B := Blk.new W 5 #[.int .u8 (48 + (d : Int))]
    have c := B.cell 0
    show (W.alloc _).cell? ⟨W.heap.size, 0, none⟩ = _
    rw [c]
    show some (Value.int .u8 (48 + (d : Int))) = some (Value.int .u8 (((UInt8.ofNat (48 + d)).toNat : Nat) : Int))
    rw [dgN hd]
    rfl)
  exact h
set_option maxRecDepth 100000 in
set_option maxHeartbeats 2000000 in
theorem mrdec_any (n : Nat) (w : World) (hn : n ≤ 4000) : Calls Tryz.prog 74 #[.int .i64 n] w fun e w' => (∃ s : ByteArray, e = .returned (.string s)) ∧ Below w.heap.size w w' := by
  go_enter Tryz.func74, Tryz.ntmps74
  go_wp2
  go_loopw [0, 3] (fun v0 v3 wr => ∃ (out : List UInt8) (k : Nat), v3 = strV out ∧ v0 = .int .i64 k ∧ out.length + k ≤ 4001 ∧ Hid (Below w.heap.size w wr)) (fun v0 v3 _ => (intOf v0).toNat + (1 - match v3 with | .string s => s.size | _ => 0))
  case atStart => exact ⟨[], n, rfl, rfl, by simp; omega, hide (Below.refl _ _)⟩
  case round =>
    obtain ⟨out, k, rfl, rfl, hk, HB⟩ := hrel
    have os : (⟨out.toArray⟩ : ByteArray).size = out.length := by simp [ByteArray.size]
    have dd : k % 10 < 10 := Nat.mod_lt _ (by decide)
    have CV := byte_convM (k % 10) dd wr
    have HB2 := hide (fun o => HB.out.alloc HB.out.size o)
    have e1 : (k : Int).tmod 10 = ((k % 10 : Nat) : Int) := rfl
    have e2 : (k : Int).tdiv 10 = ((k / 10 : Nat) : Int) := rfl
    have q2 : k / 10 ≤ k := Nat.div_le_self _ _
    have q3 : 0 < k → k / 10 < k := fun h => Nat.div_lt_self h (by decide)
    have l1 : ¬ 9223372036854775807 < 1 + out.length := by omega
    generalize k % 10 = d at *
    generalize k / 10 = q at *
    generalize UInt8.ofNat (48 + d) = B at *
    have os2 : (⟨(B :: out).toArray⟩ : ByteArray).size = out.length + 1 := by simp [ByteArray.size]
    have c1 : (⟨#[B]⟩ : ByteArray) ++ ⟨out.toArray⟩ = ⟨(B :: out).toArray⟩ := ba_append [B] out
    by_cases hk1 : 0 < k
    · have d1 : decide ((0 : Int) < (k : Int)) = true := decide_eq_true (by omega)
      have l2 : q < k := q3 hk1
      clear q3
      go_wp2
      go_roundw
      case rel => exact ⟨B :: out, q, rfl, rfl, by simp; omega, hide (HB2.out _)⟩
      case measure => simp [intOf]; omega
    · obtain rfl : k = 0 := by omega
      have d1 : decide ((0 : Int) < ((0 : Nat) : Int)) = false := by decide
      clear q3
      cases out with
      | nil =>
        obtain rfl : q = 0 := by omega
        have CV0 : (convert 175 9 (.slice (some ⟨wr.heap.size, 0, none⟩) 1 1)).run Tryz.prog (wr.alloc (.cells #[.int .u8 48] 5)) = .ok (strV [48]) (wr.alloc (.cells #[.int .u8 48] 5)) := byte_convM 0 (by decide) wr
        have c2 : (⟨#[48]⟩ : ByteArray) ++ ⟨([] : List UInt8).toArray⟩ = ⟨[48].toArray⟩ := ba_append [48] []
        clear CV c1
        go_wp2
        go_roundw
        case rel => exact ⟨[48], 0, rfl, rfl, by simp, hide (HB2.out _)⟩
        case measure => simp [intOf, ByteArray.size]
      | cons c l =>
        go_wp2
        go_ret
        exact ⟨⟨_, rfl⟩, HB.out⟩
end Go.Proofs.YtbmocghfpcfmhaaGreatDoor

namespace Go.Proofs.YtbmocghfpcfmhaaGreatDoor
open Go Go.RowKit

theorem row_sliceN {w : World} {base : Nat} {e : TypeId} {size n : Nat} {v : Value} {xs : List Value} (h : w.ownsRow base e size v n xs) : ∃ A c, v = .slice A n c ∧ n ≤ c := by
  rcases h.2 with ⟨rfl, rfl⟩ | ⟨g, cp, cur, rfl, _, _, h, _⟩
  · exact ⟨_, _, rfl, Nat.le_refl _⟩
  · exact ⟨_, _, rfl, h⟩
abbrev Spt.cs (s : Spt) : List Value := [.int .i64 s.x, .int .i64 s.y, .int .i64 s.z]
def flatSpt (l : List Spt) : List Value := l.flatMap Spt.cs
theorem flatSpt_append (a b : List Spt) : flatSpt (a ++ b) = flatSpt a ++ flatSpt b := by simp [flatSpt]
theorem flatSpt_len (l : List Spt) : (flatSpt l).length = l.length * 3 := by
  induction l with
  | nil => rfl
  | cons c l ih => simp only [flatSpt, List.flatMap_cons, List.length_append, List.length_cons] at ih ⊢; rw [ih]; simp; omega
theorem flatSpt_at : ∀ (l : List Spt) (i : Nat) (h : i < l.length), (flatSpt l)[i * 3]? = some (.int .i64 l[i].x) ∧ (flatSpt l)[i * 3 + 1]? = some (.int .i64 l[i].y) ∧ (flatSpt l)[i * 3 + 2]? = some (.int .i64 l[i].z)
  | [], i, h => absurd h (by simp)
  | c :: l, 0, _ => ⟨rfl, rfl, rfl⟩
  | c :: l, i + 1, h => by
    have ih := flatSpt_at l i (by simpa using h)
    have e : flatSpt (c :: l) = c.cs ++ flatSpt l := rfl
    have k : ∀ j, (flatSpt (c :: l))[(i + 1) * 3 + j]? = (flatSpt l)[i * 3 + j]? := fun j => by
      rw [e, List.getElem?_append_right (by simp; omega)]
      congr 1
      simp; omega
    exact ⟨(k 0).trans ih.1, (k 1).trans ih.2.1, (k 2).trans ih.2.2⟩
theorem flatSpt_cell {l : List Spt} {j : Nat} {u : Value} (h : (flatSpt l)[j]? = some u) : ∃ (i : Nat) (hi : i < l.length) (m : Nat), m < 3 ∧ j = i * 3 + m ∧ l[i].cs[m]? = some u := by
  induction l generalizing j with
  | nil => simp [flatSpt] at h
  | cons c l ih =>
    have e : flatSpt (c :: l) = c.cs ++ flatSpt l := rfl
    rw [e] at h
    by_cases hj : j < 3
    · rw [List.getElem?_append_left (by simpa using hj)] at h
      exact ⟨0, by simp, j, hj, by simp, h⟩
    · rw [List.getElem?_append_right (by simp; omega)] at h
      obtain ⟨i, hi, m, hm, hjm, hu⟩ := ih h
      refine ⟨i + 1, by simpa using hi, m, hm, ?_, by simpa using hu⟩
      simp at hjm; omega
theorem flatSpt_one (l : List Spt) : ∀ u ∈ flatSpt l, u.oneCell' = true := by
  intro u hu
  obtain ⟨s, _, hs⟩ := List.mem_flatMap.1 hu
  simp only [Spt.cs, List.mem_cons, List.not_mem_nil, or_false] at hs
  rcases hs with rfl | rfl | rfl <;> rfl
theorem SptSl.of_row {w : World} {base : Nat} {e : TypeId} {v : Value} {n : Nat} {l : List Spt} (h : w.ownsRow base e 3 v n (flatSpt l)) (hb : l.length ≤ maxLen) (hr : ∀ i (h : i < l.length), i64 l[i].x ∧ i64 l[i].y ∧ i64 l[i].z) : ∃ A c, v = .slice A l.length c ∧ SptSl w A l ∧ l.length ≤ c := by
  have hn : l.length = n := by have := h.1; rw [flatSpt_len] at this; omega
  rcases h.2 with ⟨rfl, h0⟩ | ⟨g, cap, cur, rfl, hg, hcell, hnc, _, hsz, htake⟩
  · rw [h0] at hn
    have : l = [] := List.eq_nil_of_length_eq_zero hn
    subst this
    exact ⟨none, 0, rfl, ⟨⟨hb, hr⟩, fun h => by simp at h⟩, by simp⟩
  · subst hn
    refine ⟨some ⟨g, 0, none⟩, cap, rfl, ⟨⟨hb, hr⟩, fun _ => ⟨g, 0, rfl, (Array.getElem?_eq_some_iff.1 hcell).1, fun i hi => ?_⟩⟩, hnc⟩
    have k := fun j u (hu : (flatSpt l)[j]? = some u) => (show w.cell? ⟨g, 0 + j, none⟩ = some u by
      have hc := h.cells (g := g) rfl j u hu
      have e : (⟨g, 0, none⟩ : Addr).add j = ⟨g, 0 + j, none⟩ := by unfold Addr.add; split <;> simp_all
      rw [e] at hc
      exact hc)
    obtain ⟨a0, a1, a2⟩ := flatSpt_at l i hi
    exact ⟨k _ _ a0, k _ _ a1, k _ _ a2⟩
theorem SptSl.cells {w : World} {b off : Nat} {l : List Spt} (hat : ∀ i (h : i < l.length), SptAt w b (off + i * 3) l[i]) : ∀ j u, (flatSpt l)[j]? = some u → w.cell? ⟨b, off + j, none⟩ = some u := by
  intro j u hj
  obtain ⟨i, hi, m, hm, rfl, hu⟩ := flatSpt_cell hj
  have h := hat i hi
  rw [show off + (i * 3 + m) = off + i * 3 + m by omega]
  obtain rfl | rfl | rfl : m = 0 ∨ m = 1 ∨ m = 2 := by omega
  · exact h.1.trans hu
  · exact h.2.1.trans hu
  · exact h.2.2.trans hu
theorem spt_infoN : (Tryz.prog.info? 60).map (fun i => (i.zero, i.size, i.bytes)) = some (some (.agg #[.int .i64 0, .int .i64 0, .int .i64 0]), 3, 24) := by kernel_rfl
/-- a copy in memory of the call's own -/
def CloneSpt (l : List Spt) (w : World) (e : Ending) (w' : World) : Prop := ∃ A c, e = .returned (.slice A l.length c) ∧ w'.ownsRow w.heap.size 60 3 (.slice A l.length c) l.length (flatSpt l) ∧ l.length ≤ c ∧ Below w.heap.size w w'
abbrev Fce.cs (s : Fce) : List Value := [.int .i64 s.a, .int .i64 s.b, .int .i64 s.c, .int .i64 s.k]
def flatFce (l : List Fce) : List Value := l.flatMap Fce.cs
theorem flatFce_append (a b : List Fce) : flatFce (a ++ b) = flatFce a ++ flatFce b := by simp [flatFce]
theorem flatFce_len (l : List Fce) : (flatFce l).length = l.length * 4 := by
  induction l with
  | nil => rfl
  | cons c l ih => simp only [flatFce, List.flatMap_cons, List.length_append, List.length_cons] at ih ⊢; rw [ih]; simp; omega
theorem flatFce_at : ∀ (l : List Fce) (i : Nat) (h : i < l.length), (flatFce l)[i * 4]? = some (.int .i64 l[i].a) ∧ (flatFce l)[i * 4 + 1]? = some (.int .i64 l[i].b) ∧ (flatFce l)[i * 4 + 2]? = some (.int .i64 l[i].c) ∧ (flatFce l)[i * 4 + 3]? = some (.int .i64 l[i].k)
  | [], i, h => absurd h (by simp)
  | c :: l, 0, _ => ⟨rfl, rfl, rfl, rfl⟩
  | c :: l, i + 1, h => by
    have ih := flatFce_at l i (by simpa using h)
    have e : flatFce (c :: l) = c.cs ++ flatFce l := rfl
    have k : ∀ j, (flatFce (c :: l))[(i + 1) * 4 + j]? = (flatFce l)[i * 4 + j]? := fun j => by
      rw [e, List.getElem?_append_right (by simp; omega)]
      congr 1
      simp; omega
    exact ⟨(k 0).trans ih.1, (k 1).trans ih.2.1, (k 2).trans ih.2.2.1, (k 3).trans ih.2.2.2⟩
theorem flatFce_cell {l : List Fce} {j : Nat} {u : Value} (h : (flatFce l)[j]? = some u) : ∃ (i : Nat) (hi : i < l.length) (m : Nat), m < 4 ∧ j = i * 4 + m ∧ l[i].cs[m]? = some u := by
  induction l generalizing j with
  | nil => simp [flatFce] at h
  | cons c l ih =>
    have e : flatFce (c :: l) = c.cs ++ flatFce l := rfl
    rw [e] at h
    by_cases hj : j < 4
    · rw [List.getElem?_append_left (by simpa using hj)] at h
      exact ⟨0, by simp, j, hj, by simp, h⟩
    · rw [List.getElem?_append_right (by simp; omega)] at h
      obtain ⟨i, hi, m, hm, hjm, hu⟩ := ih h
      refine ⟨i + 1, by simpa using hi, m, hm, ?_, by simpa using hu⟩
      simp at hjm; omega
theorem flatFce_one (l : List Fce) : ∀ u ∈ flatFce l, u.oneCell' = true := by
  intro u hu
  obtain ⟨s, _, hs⟩ := List.mem_flatMap.1 hu
  simp only [Fce.cs, List.mem_cons, List.not_mem_nil, or_false] at hs
  rcases hs with rfl | rfl | rfl | rfl <;> rfl
theorem FceSl.of_row {w : World} {base : Nat} {e : TypeId} {v : Value} {n : Nat} {l : List Fce} (h : w.ownsRow base e 4 v n (flatFce l)) (hb : l.length ≤ maxLen) (hr : ∀ i (h : i < l.length), i64 l[i].a ∧ i64 l[i].b ∧ i64 l[i].c ∧ i64 l[i].k) : ∃ A c, v = .slice A l.length c ∧ FceSl w A l ∧ l.length ≤ c := by
  have hn : l.length = n := by have := h.1; rw [flatFce_len] at this; omega
  rcases h.2 with ⟨rfl, h0⟩ | ⟨g, cap, cur, rfl, hg, hcell, hnc, _, hsz, htake⟩
  · rw [h0] at hn
    have : l = [] := List.eq_nil_of_length_eq_zero hn
    subst this
    exact ⟨none, 0, rfl, ⟨⟨hb, hr⟩, fun h => by simp at h⟩, by simp⟩
  · subst hn
    refine ⟨some ⟨g, 0, none⟩, cap, rfl, ⟨⟨hb, hr⟩, fun _ => ⟨g, 0, rfl, (Array.getElem?_eq_some_iff.1 hcell).1, fun i hi => ?_⟩⟩, hnc⟩
    have k := fun j u (hu : (flatFce l)[j]? = some u) => (show w.cell? ⟨g, 0 + j, none⟩ = some u by
      have hc := h.cells (g := g) rfl j u hu
      have e : (⟨g, 0, none⟩ : Addr).add j = ⟨g, 0 + j, none⟩ := by unfold Addr.add; split <;> simp_all
      rw [e] at hc
      exact hc)
    obtain ⟨a0, a1, a2, a3⟩ := flatFce_at l i hi
    exact ⟨k _ _ a0, k _ _ a1, k _ _ a2, k _ _ a3⟩
theorem FceSl.cells {w : World} {b off : Nat} {l : List Fce} (hat : ∀ i (h : i < l.length), FceAt w b (off + i * 4) l[i]) : ∀ j u, (flatFce l)[j]? = some u → w.cell? ⟨b, off + j, none⟩ = some u := by
  intro j u hj
  obtain ⟨i, hi, m, hm, rfl, hu⟩ := flatFce_cell hj
  have h := hat i hi
  rw [show off + (i * 4 + m) = off + i * 4 + m by omega]
  obtain rfl | rfl | rfl | rfl : m = 0 ∨ m = 1 ∨ m = 2 ∨ m = 3 := by omega
  · exact h.1.trans hu
  · exact h.2.1.trans hu
  · exact h.2.2.1.trans hu
  · exact h.2.2.2.trans hu
theorem fce_infoN : (Tryz.prog.info? 62).map (fun i => (i.zero, i.size, i.bytes)) = some (some (.agg #[.int .i64 0, .int .i64 0, .int .i64 0, .int .i64 0]), 4, 32) := by kernel_rfl
/-- a copy in memory of the call's own -/
def CloneFce (l : List Fce) (w : World) (e : Ending) (w' : World) : Prop := ∃ A c, e = .returned (.slice A l.length c) ∧ w'.ownsRow w.heap.size 62 4 (.slice A l.length c) l.length (flatFce l) ∧ l.length ≤ c ∧ Below w.heap.size w w'
end Go.Proofs.YtbmocghfpcfmhaaGreatDoor

namespace Go.Proofs.YtbmocghfpcfmhaaGreatDoor
open Go Go.RowKit

theorem cF_at (f : Nat → Value) {k : Nat} (hk : k < 7) : (cF f)[k]? = some (f k) := by
  obtain rfl | rfl | rfl | rfl | rfl | rfl | rfl : k = 0 ∨ k = 1 ∨ k = 2 ∨ k = 3 ∨ k = 4 ∨ k = 5 ∨ k = 6 := by omega
  all_goals rfl
/-- a row of so many findings -/
def FRow (W : World) (B : Nat) (v : Value) (n : Nat) : Prop := ∃ xs, W.ownsRow B 121 2 v n xs ∧ ∀ u ∈ xs, u.oneCell' = true
theorem FRow.kept {W W' : World} {B : Nat} {v : Value} {n : Nat} {row : Option Nat} (h : FRow W B v n) (hg : W.grownBy W' row) (hn : v.ownBlock = none ∨ v.ownBlock ≠ row) : FRow W' B v n := by
  obtain ⟨xs, hx, h1⟩ := h
  exact ⟨xs, hx.kept hg hn, h1⟩
theorem FRow.set {W : World} {B : Nat} {v : Value} {n : Nat} (h : FRow W B v n) {g : Nat} {t : TypeId} {cs : Array Value} (hB : Blk W g t cs) (hne : 121 ≠ t) (i : Nat) (u : Value) : FRow (W.setCell ⟨g, i, none⟩ u) B v n := by
  obtain ⟨xs, hx, h1⟩ := h
  exact ⟨xs, row_set hx hB hne i u, h1⟩
theorem FRow.lt {W : World} {B : Nat} {v : Value} {n : Nat} (h : FRow W B v n) {b : Nat} (e : v.ownBlock = some b) : b < W.heap.size := by
  obtain ⟨xs, hx, _⟩ := h
  exact (hx.lt b e).2
/-- the rows of findings: each in a block of its own -/
structure SixF (W : World) (B : Nat) (f : Nat → Value) (L : Nat → List Nat) : Prop where
  row : ∀ k, k < 7 → FRow W B (f k) (L k).length
  ne : ∀ j k, j < 7 → k < 7 → j ≠ k → (f j).ownBlock = none ∨ (f j).ownBlock ≠ (f k).ownBlock
section
variable {W W' : World} {B : Nat} {f : Nat → Value} {L : Nat → List Nat}
theorem SixF.kept {row : Option Nat} (h : SixF W B f L) (hg : W.grownBy W' row) (hn : ∀ k, k < 7 → (f k).ownBlock = none ∨ (f k).ownBlock ≠ row) : SixF W' B f L :=
  ⟨fun k hk => (h.row k hk).kept hg (hn k hk), h.ne⟩
theorem SixF.to (h : SixF W B f L) (hb : Below W.heap.size W W') : SixF W' B f L := h.kept (grown_of_below hb none) (fun k _ => by cases (f k).ownBlock <;> simp)
theorem SixF.set {g : Nat} {t : TypeId} {cs : Array Value} (h : SixF W B f L) (hB : Blk W g t cs) (hne : 121 ≠ t) (i : Nat) (u : Value) : SixF (W.setCell ⟨g, i, none⟩ u) B f L :=
  ⟨fun k hk => (h.row k hk).set hB hne i u, h.ne⟩
theorem SixF.nil (W : World) (B : Nat) : SixF W B (fun _ => .slice none 0 0) (fun _ => []) := ⟨fun _ _ => ⟨[], World.ownsRow_nil _ _ _ _, by simp⟩, fun _ _ _ _ _ => .inl rfl⟩
theorem SixF.app {k x g c : Nat} (h : SixF W B f L) (hk : k < 7) (hown : FRow W' B (.slice (some ⟨g, 0, none⟩) ((L k).length + 1) c) ((L k).length + 1))
    (hg : W.grownBy W' (f k).ownBlock) (hv : (f k).ownBlock = some g ∨ g = W.heap.size) : SixF W' B (upF f k (.slice (some ⟨g, 0, none⟩) ((L k).length + 1) c)) (upF L k (L k ++ [x])) := by
  have lt : ∀ j, j < 7 → ∀ b, (f j).ownBlock = some b → b < W.heap.size := fun j hj b e => (h.row j hj).lt e
  have nk : ∀ j, j < 7 → j ≠ k → (f j).ownBlock = none ∨ (f j).ownBlock ≠ some g := fun j hj hjk => by
    rcases hv with hv | hv
    · rw [← hv]; exact h.ne j k hj hk hjk
    · cases e : (f j).ownBlock with
      | none => exact .inl rfl
      | some b =>
        have := lt j hj b e
        exact .inr (by intro e'; injection e' with e'; omega)
  refine ⟨fun j hj => ?_, fun i j hi hj hij => ?_⟩
  · unfold upF
    by_cases e : j = k
    · subst e
      simp only [if_true, List.length_append, List.length_singleton]
      exact hown
    · simp only [if_neg e]
      exact (h.row j hj).kept hg (h.ne j k hj hk e)
  · unfold upF
    by_cases e1 : i = k
    · subst e1
      simp only [if_true, if_neg (Ne.symm hij)]
      rcases nk j hj (Ne.symm hij) with e | e
      · exact .inr (by rw [e]; simp [Value.ownBlock])
      · exact .inr (fun e' => e e'.symm)
    · by_cases e2 : j = k
      · subst e2
        simp only [if_true, if_neg e1]
        exact nk i hi e1
      · simp only [if_neg e1, if_neg e2]
        exact h.ne i j hi hj hij
end
/-- what the reference's Check holds -/
structure Sr (w W : World) (bL : Nat) (C : List (Nat × TypeId × Array Value)) (f : Nat → Value) (L : Nat → List Nat) (v : Value) (l : List Fce) : Prop where
  own : Own w W ((bL, 79, cF f) :: C)
  six : SixF W w.heap.size f L
  snd : W.ownsRow w.heap.size 62 4 v l.length (flatFce l)
  ty : ∀ x ∈ C, 121 ≠ x.2.1
  ne : ∀ x ∈ C, x.1 ≠ bL
  bL : w.heap.size ≤ bL
section
variable {w W W' : World} {bL : Nat} {C : List (Nat × TypeId × Array Value)} {f : Nat → Value} {L : Nat → List Nat} {v : Value} {l : List Fce}
theorem Sr.to (h : Sr w W bL C f L v l) (hb : Below W.heap.size W W') : Sr w W' bL C f L v l :=
  ⟨h.own.to hb, h.six.to hb, row_below h.snd hb, h.ty, h.ne, h.bL⟩
theorem Sr.drew (h : Sr w W bL C f L v l) : Sr w W.drew bL C f L v l := h.to ((Below.refl W.heap.size W).drew)
theorem Sr.tail {x : Nat × TypeId × Array Value} (h : Sr w W bL (x :: C) f L v l) : Sr w W bL C f L v l :=
  ⟨h.own.swap.tail, h.six, h.snd, fun y hy => h.ty y (List.mem_cons_of_mem _ hy), fun y hy => h.ne y (List.mem_cons_of_mem _ hy), h.bL⟩
theorem Sr.alloc (h : Sr w W bL C f L v l) (cs : Array Value) (t : TypeId) (h1 : 121 ≠ t) : Sr w (W.alloc (.cells cs t)) bL ((W.heap.size, t, cs) :: C) f L v l :=
  have hb : Below W.heap.size W (W.alloc (.cells cs t)) := (Below.refl _ _).alloc (Nat.le_refl _) _
  ⟨(h.own.alloc cs t).swap, h.six.to hb, row_below h.snd hb, fun x hx => by
      rcases List.mem_cons.1 hx with rfl | hx
      · exact h1
      · exact h.ty x hx, fun x hx => by
      rcases List.mem_cons.1 hx with rfl | hx
      · have := h.own.r1.2.2
        show W.heap.size ≠ bL
        omega
      · exact h.ne x hx, h.bL⟩
theorem Sr.own_new (h : Sr w W bL C f L v l) {k : Nat} (hk : k < 7) {ys : Array Value} (hg : (W.alloc (.cells ys 121)).grownBy W' (f k).ownBlock) : Own w W' ((bL, 79, cF f) :: C) := by
  have hb : Below W.heap.size W (W.alloc (.cells ys 121)) := (Below.refl _ _).alloc (Nat.le_refl _) _
  obtain ⟨xs, r0, _⟩ := (h.six.to hb).row k hk
  exact (h.own.to hb).grown r0 hg (fun x hx => by
    rcases List.mem_cons.1 hx with rfl | hx
    · exact (show (121 : Nat) ≠ 79 by decide)
    · exact h.ty x hx)
/-- one more finding of a kind: the row grows, and its name is stored -/
theorem Sr.app (h : Sr w W bL C f L v l) {k x g c : Nat} {ys : Array Value} (hk : k < 7)
    (hown : FRow W' w.heap.size (.slice (some ⟨g, 0, none⟩) ((L k).length + 1) c) ((L k).length + 1))
    (hg : (W.alloc (.cells ys 121)).grownBy W' (f k).ownBlock) (hv : (f k).ownBlock = some g ∨ g = W.heap.size + 1) :
    Sr w (W'.setCell ⟨bL, k, none⟩ (.slice (some ⟨g, 0, none⟩) ((L k).length + 1) c)) bL C (upF f k (.slice (some ⟨g, 0, none⟩) ((L k).length + 1) c)) (upF L k (L k ++ [x])) v l := by
  have hb : Below W.heap.size W (W.alloc (.cells ys 121)) := (Below.refl _ _).alloc (Nat.le_refl _) _
  obtain ⟨xs, r0, _⟩ := (h.six.to hb).row k hk
  have O4 := h.own_new hk hg
  have B4 : Blk W' bL 79 (cF f) := O4.2 _ (List.mem_cons_self ..)
  have s4 := (h.six.to hb).app (x := x) hk hown hg (by simpa using hv)
  have t4 := (row_below h.snd hb).kept hg (rows_ne (row_below h.snd hb) r0 (by decide))
  refine ⟨?_, s4.set B4 (by decide) k _, row_set t4 B4 (by decide) k _, h.ty, h.ne, h.bL⟩
  have := O4.set0 h.bL h.ne k (.slice (some ⟨g, 0, none⟩) ((L k).length + 1) c)
  rwa [cF_set f hk] at this
/-- one more right face -/
theorem Sr.more (h : Sr w W bL C f L v l) (hty : ∀ x ∈ C, 62 ≠ x.2.1) {t : Fce} {v' : Value} (hown : W'.ownsRow w.heap.size 62 4 v' (l.length + 1) (flatFce l ++ t.cs))
    (hg : (W.alloc (.cells t.cs.toArray 62)).grownBy W' v.ownBlock) : Sr w W' bL C f L v' (l ++ [t]) := by
  have hb : Below W.heap.size W (W.alloc (.cells t.cs.toArray 62)) := (Below.refl _ _).alloc (Nat.le_refl _) _
  have r0 := row_below h.snd hb
  refine ⟨(h.own.to hb).grown r0 hg (fun x hx => ?_), (h.six.to hb).kept hg (fun k hk => ?_), ?_, h.ty, h.ne, h.bL⟩
  · rcases List.mem_cons.1 hx with rfl | hx
    · exact (show (62 : Nat) ≠ 79 by decide)
    · exact hty x hx
  · obtain ⟨xs, hx, _⟩ := (h.six.to hb).row k hk
    exact rows_ne hx r0 (by decide)
  · rw [flatFce_append, List.length_append]
    simpa [flatFce] using hown
end
/-- the faces that are right so far -/
def sndF (ss : List Spt) (fs : List Fce) (k : Nat) : List Fce := (snd ss fs k).map (fcA fs)
theorem sndF_yes {ss : List Spt} {fs : List Fce} {k : Nat} (h : (crB ss (fcA fs k) && posB ss (fcA fs k)) = true) : sndF ss fs (k + 1) = sndF ss fs k ++ [fcA fs k] := by
  unfold sndF; rw [snd_yes h, List.map_append]; rfl
theorem sndF_no {ss : List Spt} {fs : List Fce} {k : Nat} (h : (crB ss (fcA fs k) && posB ss (fcA fs k)) = false) : sndF ss fs (k + 1) = sndF ss fs k := by
  unfold sndF; rw [snd_no h]
theorem sndF_len {ss : List Spt} {fs : List Fce} {k : Nat} : (sndF ss fs k).length ≤ k := by
  unfold sndF snd
  rw [List.length_map]
  have := List.length_filter_le (fun i => crB ss (fcA fs i) && posB ss (fcA fs i)) (List.range k)
  simpa using this
theorem sndF_cr {ss : List Spt} {fs : List Fce} {k i : Nat} (h : i < (sndF ss fs k).length) : crB ss (sndF ss fs k)[i] = true := by
  have : (sndF ss fs k)[i] ∈ sndF ss fs k := List.getElem_mem h
  unfold sndF at this
  obtain ⟨j, hj, e⟩ := List.mem_map.1 this
  have e' : (sndF ss fs k)[i] = fcA fs j := e.symm
  rw [e']
  exact (snd_mem hj).2.1
theorem crB_nat {ss : List Spt} {a b c k : Int} (h : crB ss ⟨a, b, c, k⟩ = true) : ∃ x y z : Nat, a = x ∧ b = y ∧ c = z ∧ x < ss.length ∧ y < ss.length ∧ z < ss.length := by
  simp only [crB, cnB, Bool.and_eq_true, decide_eq_true_eq] at h
  obtain ⟨⟨⟨⟨⟨⟨⟨h1, h2⟩, h3⟩, _⟩, _⟩, _⟩, _⟩, _⟩ := h
  exact ⟨a.toNat, b.toNat, c.toNat, by omega, by omega, by omega, by omega, by omega, by omega⟩
theorem crB_i64 {ss : List Spt} {f : Fce} (hl : ss.length ≤ 2000) (h : crB ss f = true) : i64 f.a ∧ i64 f.b ∧ i64 f.c ∧ i64 f.k := by
  simp only [crB, cnB, Bool.and_eq_true, decide_eq_true_eq] at h
  obtain ⟨⟨⟨⟨⟨⟨⟨h1, h2⟩, h3⟩, _⟩, _⟩, _⟩, _⟩, _⟩ := h
  unfold i64
  omega
theorem sndF_sl {ss : List Spt} {fs : List Fce} {k : Nat} {w : World} {B : Nat} {v : Value} (hl : ss.length ≤ 2000) (hk : k ≤ 4000) (h : w.ownsRow B 62 4 v (sndF ss fs k).length (flatFce (sndF ss fs k))) : ∃ A c, v = .slice A (sndF ss fs k).length c ∧ FceSl w A (sndF ss fs k) := by
  obtain ⟨A, c, e, hs, _⟩ := FceSl.of_row h (by have := @sndF_len ss fs k; unfold maxLen; omega) (fun i hi => crB_i64 hl (sndF_cr hi))
  exact ⟨A, c, e, hs⟩
theorem sndF_ss {ss : List Spt} {fs : List Fce} {k : Nat} (t : Fce) : (sndF ss fs k).any (ssB t) = (snd ss fs k).any fun i => ssB t (fcA fs i) := by
  unfold sndF; rw [List.any_map]; rfl
theorem sndF_ov {ss : List Spt} {fs : List Fce} {k : Nat} (t : Tri) : (sndF ss fs k).any (fun g => ovlB t (triA ss g)) = (sndT ss fs k).any (ovlB t) := by
  unfold sndF sndT; rw [List.any_map, List.any_map]; rfl
theorem FRow.slice {W : World} {B : Nat} {v : Value} {n : Nat} (h : FRow W B v n) : ∃ A c, v = .slice A n c := by
  obtain ⟨xs, hx, _⟩ := h
  rcases hx.2 with ⟨rfl, h0⟩ | ⟨g, cap, _, rfl, _⟩
  · exact ⟨none, 0, by rw [h0]⟩
  · exact ⟨_, cap, rfl⟩
/-- the first sides, and the first overlaps, of a face -/
theorem any_take_s {α : Type} {p : α → Bool} {l : List α} {i : Nat} (h : i < l.length) : (l.take (i + 1)).any p = ((l.take i).any p || p l[i]) := by
  rw [List.take_succ_eq_append_getElem h, List.any_append]; simp
/-- what the reference's Check holds while it lists the findings -/
structure Orf (w W : World) (bL : Nat) (f : Nat → Value) (L : Nat → List Nat) (v : Value) (N : Nat) : Prop where
  own : Own w W [(bL, 79, cF f)]
  six : SixF W w.heap.size f L
  row : FRow W w.heap.size v N
  ne : ∀ k, k < 7 → (f k).ownBlock = none ∨ (f k).ownBlock ≠ v.ownBlock
theorem Sr.orf {w W : World} {bL : Nat} {C : List (Nat × TypeId × Array Value)} {f : Nat → Value} {L : Nat → List Nat} {v : Value} {l : List Fce} (h : Sr w W bL C f L v l) : Orf w W bL f L (.slice none 0 0) 0 :=
  ⟨⟨h.own.1, fun x hx => h.own.2 x (by rcases List.mem_singleton.1 hx with rfl; exact List.mem_cons_self ..)⟩, h.six, ⟨[], World.ownsRow_nil _ _ _ _, by simp⟩, fun k _ => by
    cases e : (f k).ownBlock with
    | none => exact .inl rfl
    | some b => exact .inr (by simp [Value.ownBlock])⟩
theorem Orf.grow {w W W' : World} {bL : Nat} {f : Nat → Value} {L : Nat → List Nat} {v v' : Value} {N N' : Nat} (h : Orf w W bL f L v N) (hown : FRow W' w.heap.size v' N') (hg : W.grownBy W' v.ownBlock) (hv : v'.ownBlock = v.ownBlock ∨ v'.ownBlock = some W.heap.size) : Orf w W' bL f L v' N' := by
  obtain ⟨xs, hx, _⟩ := h.row
  refine ⟨h.own.grown hx hg (by simp), h.six.kept hg (fun k hk => h.ne k hk), hown, fun k hk => ?_⟩
  rcases hv with e | e
  · rw [e]; exact h.ne k hk
  · rw [e]
    cases e2 : (f k).ownBlock with
    | none => exact .inl rfl
    | some b =>
      have := (h.six.row k hk).lt e2
      exact .inr (by intro e'; injection e' with e'; omega)
end Go.Proofs.YtbmocghfpcfmhaaGreatDoor
