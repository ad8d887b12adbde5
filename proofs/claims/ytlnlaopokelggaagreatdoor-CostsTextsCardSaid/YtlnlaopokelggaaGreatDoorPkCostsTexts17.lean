/- Parts of one proof, joined: The program's Parse of bills (costs): what it returns; nothing that was there is turned. (Printed by gen_ct.py.). The reference's Words (sewershedref28): what it returns; nothing that was there is turned. (Printed by gen_ct.py.). The reference's IsName: it reports whether a string is a name, for every string; it leaves the world as it is. The reference's Valid of bills (sewershedref48): what it returns; nothing that was there is turned. (Printed by gen_ct.py.). -/
import Derived.Test.YtlnlaopokelggaaGreatDoorPkCostsTexts15
import Derived.Test.YtlnlaopokelggaaGreatDoorPkCostsTexts16
import Derived.Test.YtlnlaopokelggaaGreatDoorPkCostsTexts14
namespace Go.Proofs.YtlnlaopokelggaaGreatDoor
open Go Go.RowKit

set_option maxRecDepth 100000 in
set_option maxHeartbeats 4000000 in
theorem coparse_any (l : List UInt8) (w : World) (hs : l.length ≤ 900000) (ht : TxtW w) : Calls Tryz.prog 6 #[strV l] w (PrsPost l w) := by
  obtain ⟨i0, hi0, hz0, hz1, hz2⟩ := info_parts itm_info
  have hs2 : (⟨l.toArray⟩ : ByteArray).size = l.length := by simp [ByteArray.size]
  have X := (Own.start w).alloc #[.int .i64 0, .int .i64 0] 26
  have HT := hide ht
  have SA := hide (splitAfter_own l 10 (w.alloc (.cells #[.int .i64 0, .int .i64 0] 26)) (by omega) (ht.below X.1))
  obtain ⟨M, x, eL, eN0⟩ := aft_last (pts 10 l) (pts_ne 10 l)
  have eN : lns l = if x = [] then M else M ++ [x] := eN0
  clear eN0
  have lL := aft_length 10 (pts 10 l)
  have lP := pts_length 10 l
  rw [eL] at SA lL
  unfold AftPost at SA
  rw [World.size_alloc] at SA
  have lM : M.length ≤ l.length := by simp at lL; omega
  have PF : Hid (prsF l = if 262144 < l.length ∨ 1000 < (lns l).length then ([], 0, 4) else prsL (lns l) 0 []) := hide (by unfold prsF; rw [prs_lns])
  have PM : Hid (∀ y ∈ lns l, y.length ≤ l.length + 1) := hide (fun y hy => by have := lns_len (s := l) y hy; omega)
  have LC : Hid (∀ i (h : i < (lns l).length), ((M ++ [x]).map strV).toArray[i]? = some (strV (lns l)[i])) := hide (fun i h => by
    have e : (M ++ [x])[i]? = some (lns l)[i] := by
      rw [← List.getElem?_eq_getElem h, eN]
      split
      · rename_i hx
        rw [eN, if_pos hx] at h
        rw [List.getElem?_append_left h]
      · rfl
    rw [List.getElem?_toArray, List.getElem?_map, e]; rfl)
  have LX : Hid (((M ++ [x]).map strV).toArray[M.length]? = some (strV x)) := hide (by simp)
  have LL1 : (lns l).length ≤ M.length + 1 := by rw [eN]; split <;> simp
  clear eL lL lP ht
  have el1 : (M ++ [x]).length = M.length + 1 := by simp
  rw [el1] at SA
  have X1 := X.alloc ((M ++ [x]).map strV).toArray 9
  rw [World.size_alloc] at X1
  have hr := X1.r2
  have ways : (x = [] ∧ (lns l).length = M.length) ∨ (¬ x = [] ∧ (lns l).length = M.length + 1) := by
    by_cases h : x = []
    · exact .inl ⟨h, by rw [eN, if_pos h]⟩
    · exact .inr ⟨h, by rw [eN, if_neg h]; simp⟩
  clear eN el1
  generalize lns l = LN at *
  generalize ((M ++ [x]).map strV).toArray = cs at *
  generalize M.length = m at *
  have cx := LX.out
  have XH := hide X1
  clear X X1 LX
  have i1 := IntWalk.i64_in ((m : Int) + 1 - 1) (by omega)
  go_enter Tryz.func6, Tryz.ntmps6
  go_wp2_with fail
  refine SA.out.mono ?_
  rintro e w1 ⟨rfl, rfl⟩
  go_upto_if 27 with (fail)
  go_cut [5] (fun v5 wx => v5 = .slice (some ⟨w.heap.size + 1, 0, none⟩) LN.length (m + 1) ∧ Hid (Own w wx [(w.heap.size + 1, 9, cs), (w.heap.size, 26, #[.int .i64 0, .int .i64 0])]))
  case first =>
    rcases ways with ⟨rfl, e⟩ | ⟨hx, e⟩
    · go_wp2_with fail
      go_meet
      exact ⟨by rw [e], XH⟩
    · obtain ⟨c, r, rfl⟩ : ∃ c r, x = c :: r := by cases x with
        | nil => exact absurd rfl hx
        | cons c r => exact ⟨c, r, rfl⟩
      have q0 : (⟨(c :: r).toArray⟩ : ByteArray).toList = c :: r := by rw [ByteArray.toList_eq]
      go_wp2_with fail
      go_meet
      exact ⟨by rw [e], XH⟩
  case rest =>
    obtain ⟨rfl, HX⟩ := hcut
    clear XH hr ways cx
    have hr := HX.out.r2
    by_cases h1 : 262144 < l.length
    · have q1 : decide ((262144 : Int) < (l.length : Int)) = true := decide_eq_true (by omega)
      have E := hide (PF.out.trans (if_pos (.inl h1)))
      clear h1 PF
      go_wp2
      exact bodyPost_ret (v := .tuple #[.slice none 0 0, .agg #[.int .i64 0, .int .i64 0], .int .i64 4]) (by simp [results, Tryz.results6, hr, go_sem]) rfl (PrsPost.err (by have HX1 := HX.out.1; have hz := HX1.size; go_grown) E.out)
    have q1 : decide ((262144 : Int) < (l.length : Int)) = false := decide_eq_false (by omega)
    by_cases h2 : 1000 < LN.length
    · have q2 : decide ((1000 : Int) < (LN.length : Int)) = true := decide_eq_true (by omega)
      have E := hide (PF.out.trans (if_pos (.inr h2)))
      clear h1 h2 PF
      go_wp2
      exact bodyPost_ret (v := .tuple #[.slice none 0 0, .agg #[.int .i64 0, .int .i64 0], .int .i64 4]) (by simp [results, Tryz.results6, hr, go_sem]) rfl (PrsPost.err (by have HX1 := HX.out.1; have hz := HX1.size; go_grown) E.out)
    have q2 : decide ((1000 : Int) < (LN.length : Int)) = false := decide_eq_false (by omega)
    have EF := hide (PF.out.trans (if_neg (by omega)))
    clear PF h1 hr
    go_wp2
    go_loopw [7, 42] (fun v7 v42 wr => ∃ (acc : List Itm) (k : Nat), k ≤ LN.length ∧ acc.length = k ∧ v42 = .int .i64 k ∧ Hid (prsL LN 0 [] = prsL (LN.drop k) k acc) ∧ Hid (∀ y ∈ acc, y.nm.size ≤ maxLen) ∧
      Hid (Own w wr [(w.heap.size + 1, 9, cs), (w.heap.size, 26, #[.int .i64 0, .int .i64 0])] ∧ wr.ownsRow w.heap.size 34 3 v7 acc.length (flatItm acc))) (fun _ v _ => LN.length - (intOf v).toNat)
    case atStart => exact ⟨[], 0, Nat.zero_le _, rfl, rfl, hide rfl, hide (fun y hy => by cases hy), hide ⟨HX.out, World.ownsRow_nil _ _ _ _⟩⟩
    case round =>
      obtain ⟨acc, k, hk, hal, rfl, HP, HM, HR⟩ := hrel
      clear HX
      by_cases hlt : k < LN.length
      · have g1 : decide (k < LN.length) = true := decide_eq_true hlt
        have hdr : LN.drop k = LN[k] :: LN.drop (k + 1) := List.drop_eq_getElem_cons hlt
        have ck := LC.out k hlt
        have ly := PM.out LN[k] (List.getElem_mem hlt)
        have lb := body_len LN[k]
        have hp := HP.out
        rw [hdr, prsL] at hp
        have CU := hide (fun W => cutSuf_any LN[k] W (by omega))
        have SP := hide (fun W hW => split_any (bodyL LN[k]) 32 W (by omega) hW)
        have HIT : Hid (endB LN[k] = true → cnvB (pts 32 (bodyL LN[k])) = true → prsL LN 0 [] = prsL (LN.drop (k + 1)) (k + 1) (acc ++ [cnvC (pts 32 (bodyL LN[k]))])) := hide (fun h1 h2 => hp.trans (if_pos ⟨h2, h1⟩))
        have BAD : Hid ((endB LN[k] = false ∨ cnvB (pts 32 (bodyL LN[k])) = false) → prsF l = ([], (k : Int) + 1, 7)) := hide (fun h => EF.out.trans (hp.trans (if_neg (by
          rintro ⟨a1, a2⟩
          rcases h with h | h
          · rw [h] at a2; cases a2
          · rw [show clB (bodyL LN[k]) = cnvB (pts 32 (bodyL LN[k])) from rfl, h] at a1; cases a1))))
        have WL : Hid (∀ p ∈ pts 32 (bodyL LN[k]), p.length ≤ 900001) := hide (fun p hp => by
          have := pts_len p hp
          omega)
        have i3 := IntWalk.i64_in ((k : Int) + 1) (by omega)
        obtain ⟨A7, c7, e7, hs7⟩ := ItmSl.of_row HR.out.2 (fun i h => HM.out _ (List.getElem_mem h))
        have e7 : _ = Value.slice A7 acc.length c7 := e7
        subst e7
        clear hp hdr ly lb HP hs7 PM LC
        generalize pts 32 (bodyL LN[k]) = ws at *
        generalize bodyL LN[k] = bd at *
        generalize endB LN[k] = en at *
        generalize hy : LN[k] = y at *
        clear hy
        have hr := HR.out.1.r2
        go_wp2_with fail
        refine (CU.out _).mono ?_
        rintro e w4 ⟨rfl, rfl⟩
        have AL := hide hal
        clear hal
        by_cases h3 : ws.length = 3
        · obtain ⟨a, b, c, rfl⟩ : ∃ a b c, ws = [a, b, c] := by
            match ws, h3 with
            | [a, b, c], _ => exact ⟨a, b, c, rfl⟩
          clear h3
          have la := WL.out a (by simp)
          have lb := WL.out b (by simp)
          have lc := WL.out c (by simp)
          have NA := hide (fun W => isname_any ⟨a.toArray⟩ W (by show a.length ≤ maxLen; unfold maxLen; omega))
          rw [show (⟨a.toArray⟩ : ByteArray).data.toList = a by simp] at NA
          have NB := hide (fun W hW => coread_any b W (by omega) hW)
          have NC := hide (fun W hW => coread_any c W (by omega) hW)
          have LA : Hid ((⟨a.toArray⟩ : ByteArray).size ≤ maxLen) := hide (by show a.length ≤ maxLen; unfold maxLen; omega)
          have HIT2 : Hid (en = true → nameB a = true → ctB b = true → ctB c = true → prsL LN 0 [] = prsL (LN.drop (k + 1)) (k + 1) (acc ++ [⟨⟨a.toArray⟩, ctV b, ctV c⟩])) := hide (fun h0 h1 h2 h3 => HIT.out h0 (by simp [cnvB, h1, h2, h3]))
          have BAD2 : Hid ((en && (nameB a && ctB b && ctB c)) = false → prsF l = ([], (k : Int) + 1, 7)) := hide (fun h => BAD.out (by
            cases en
            · exact .inl rfl
            · exact .inr (show (nameB a && ctB b && ctB c) = false from (Bool.true_and _).symm.trans h)))
          unfold RetV at NB NC
          clear HIT BAD WL la lb lc
          generalize nameB a = na at *
          generalize ctB b = nb at *
          generalize ctB c = nc at *
          generalize ctV b = vb at *
          generalize ctV c = vc at *
          go_wp2_with fail
          refine (SP.out _ (HT.out.below HR.out.1.1)).mono ?_
          rintro e w3 ⟨hb, A, cp, rfl, hsl, hcp⟩
          have X3 := (HR.out.1.to hb).alloc #[.int .i64 ((k : Int) + 1), .int .i64 1] 26
          have R3 := (row_below HR.out.2 hb).alloc (.cells #[.int .i64 ((k : Int) + 1), .int .i64 1] 26)
          obtain ⟨p, off, rfl, hpl, hat⟩ := (hsl.below ((Below.refl _ _).alloc (Nat.le_refl _) (.cells #[.int .i64 ((k : Int) + 1), .int .i64 1] 26))).2 (by simp)
          have c0 : (w3.alloc (.cells #[.int .i64 ((k : Int) + 1), .int .i64 1] 26)).cell? ⟨p, off + 0, none⟩ = some (strV a) := hat 0 (by simp)
          have CC := hide (fun W (h : Below (w3.alloc (.cells #[.int .i64 ((k : Int) + 1), .int .i64 1] 26)).heap.size (w3.alloc (.cells #[.int .i64 ((k : Int) + 1), .int .i64 1] 26)) W) => And.intro ((h.cell (p := ⟨p, off + 0, none⟩) hpl).trans (hat 0 (by simp))) (And.intro ((h.cell (p := ⟨p, off + 1, none⟩) hpl).trans (hat 1 (by simp))) ((h.cell (p := ⟨p, off + 2, none⟩) hpl).trans (hat 2 (by simp)))))
          rw [Nat.add_zero] at c0
          clear hr
          have hr := X3.r3
          have X3H := hide X3
          have R3H := hide R3
          clear X3 R3 hb hsl hcp HR hat SP
          cases en
          · have E := hide (BAD2.out rfl)
            clear HIT2 BAD2 NB NC
            go_wp2
            go_region
            all_goals
              go_wp2
              exact bodyPost_ret (v := .tuple #[.slice none 0 0, .agg #[.int .i64 ((k : Int) + 1), .int .i64 1], .int .i64 7]) (by simp [results, Tryz.results6, hr, go_sem]) rfl (PrsPost.bad (by have HX1 := X3H.out.1; have hz := HX1.size; go_grown) E.out)
          go_wp2_with fail
          refine (NA.out _).mono ?_
          rintro e w4 ⟨rfl, rfl⟩
          cases na
          · have E := hide (BAD2.out rfl)
            clear HIT2 BAD2 NB NC
            go_wp2
            go_region
            all_goals
              go_wp2
              exact bodyPost_ret (v := .tuple #[.slice none 0 0, .agg #[.int .i64 ((k : Int) + 1), .int .i64 1], .int .i64 7]) (by simp [results, Tryz.results6, hr, go_sem]) rfl (PrsPost.bad (by have HX1 := X3H.out.1; have hz := HX1.size; go_grown) E.out)
          · obtain ⟨-, c1, -⟩ := CC.out _ (Below.refl _ _)
            go_wp2_with fail
            refine (NB.out _ (HT.out.below X3H.out.1)).mono ?_
            rintro e w5 ⟨rfl, hb5⟩
            have X5H := hide (X3H.out.to hb5)
            have R5H := hide (row_below R3H.out hb5)
            obtain ⟨-, -, c2⟩ := CC.out _ hb5
            have B5H := hide hb5
            clear hr c0 c1 X3H R3H hb5
            go_wp2_with fail
            refine (NC.out _ (HT.out.below X5H.out.1)).mono ?_
            rintro e w6 ⟨rfl, hb6⟩
            have X6H := hide (X5H.out.to hb6)
            have R6H := hide (row_below R5H.out hb6)
            obtain ⟨c0, -, -⟩ := CC.out _ (below_via B5H.out B5H.out.size hb6)
            rw [Nat.add_zero] at c0
            clear c2 X5H R5H hb6 B5H CC
            have hr := X6H.out.r3
            have ways : (nb = false ∨ nb = true ∧ nc = false) ∨ (nb = true ∧ nc = true) := by cases nb <;> cases nc <;> simp
            rcases ways with hw | ⟨rfl, rfl⟩
            · have E := hide (BAD2.out (by rcases hw with rfl | ⟨rfl, rfl⟩ <;> simp))
              clear HIT2 BAD2 R6H c0
              rcases hw with rfl | ⟨rfl, rfl⟩
              all_goals
                go_wp2
                go_region
                all_goals
                  go_wp2
                  exact bodyPost_ret (v := .tuple #[.slice none 0 0, .agg #[.int .i64 ((k : Int) + 1), .int .i64 1], .int .i64 7]) (by simp [results, Tryz.results6, hr, go_sem]) rfl (PrsPost.bad (by have HX1 := X6H.out.1; have hz := HX1.size; go_grown) E.out)
            · have HP2 := hide (HIT2.out (by trivial) (by trivial) (by trivial) (by trivial))
              have HM2 : Hid (∀ x ∈ acc ++ [(⟨⟨a.toArray⟩, vb, vc⟩ : Itm)], x.nm.size ≤ maxLen) := hide (fun x hx => by
                rcases List.mem_append.1 hx with h | h
                · exact HM.out x h
                · rw [List.mem_singleton.1 h]; exact LA.out)
              have f4 : ∀ u ∈ ([strV a, .int .i64 vb, .int .i64 vc] : List Value), u.oneCell' = true := by intro u hu; simp at hu; rcases hu with rfl | rfl | rfl <;> rfl
              have f1 : acc.length + 1 ≤ maxLen := by have := AL.out; unfold maxLen; omega
              have f2 : (acc.length + 1) * 32 ≤ 140737488355328 := by have := AL.out; omega
              have f3 : w.heap.size ≤ (w6.alloc (.cells #[strV a, .int .i64 vb, .int .i64 vc] 34)).heap.size := by have := X6H.out.1.size; simp at this ⊢; omega
              have el : Hid ((acc ++ [(⟨⟨a.toArray⟩, vb, vc⟩ : Itm)]).length = acc.length + 1) := hide (by simp)
              clear HIT2 BAD2 HM
              go_wp2_with (at_builtin; refine wpList_append_own _ rfl _ _ 22 rfl w.heap.size 34 i0 (.agg #[.string ⟨#[]⟩, .int .i64 0, .int .i64 0]) 3 32 Tryz.underlying22 hi0 hz0 hz1 hz2 rfl (by decide) _ acc.length (flatItm acc) rfl (R6H.out.alloc (.cells #[strV a, .int .i64 vb, .int .i64 vc] 34)) ⟨w6.heap.size, 0, none⟩ 1 1 [strV a, .int .i64 vb, .int .i64 vc] rfl rfl (World.news_of_block (cs := #[strV a, .int .i64 vb, .int .i64 vc]) (t := 34) (fr := (0, 0)) (heap_alloc_new w6 _)) f4 f1 f2 f3 ?_; intro v' w7 hown7 hgrow _)
              have O7 : Hid (Own w w7 [(w.heap.size + 1, 9, cs), (w.heap.size, 26, #[.int .i64 0, .int .i64 0])] ∧ w7.ownsRow w.heap.size 34 3 v' (acc.length + 1) (flatItm acc ++ [strV a, .int .i64 vb, .int .i64 vc])) :=
                hide ⟨((X6H.out.tail.alloc #[strV a, .int .i64 vb, .int .i64 vc] 34).tail).grown (R6H.out.alloc (.cells #[strV a, .int .i64 vb, .int .i64 vc] 34)) hgrow (fun x hx => by
                  simp only [List.mem_cons, List.not_mem_nil, or_false] at hx
                  rcases hx with rfl | rfl
                  · show 34 ≠ 9; decide
                  · show 34 ≠ 26; decide), hown7⟩
              clear hown7 hgrow X6H R6H hr c0
              go_wp2
              go_roundw
              case rel => exact ⟨acc ++ [⟨⟨a.toArray⟩, vb, vc⟩], k + 1, by omega, by rw [el.out, AL.out], by go_num, HP2, HM2, hide ⟨O7.out.1, by rw [flatItm_append, el.out]; exact O7.out.2⟩⟩
              case measure => simp [intOf]; omega
        · have q3 : ((ws.length : Int) == 3) = false := by simp; omega
          have q4 : ((ws.length : Int) != 3) = true := by simp [bne, q3]
          have E := hide (BAD.out (.inr (by
            match ws, h3 with
            | [], _ => rfl
            | [_], _ => rfl
            | [_, _], _ => rfl
            | [_, _, _], h => exact absurd rfl h
            | _ :: _ :: _ :: _ :: _, _ => rfl)))
          clear HIT BAD WL
          go_wp2_with fail
          refine (SP.out _ (HT.out.below HR.out.1.1)).mono ?_
          rintro e w3 ⟨hb, A, cp, rfl, hsl, hcp⟩
          have X3 := (HR.out.1.to hb).alloc #[.int .i64 ((k : Int) + 1), .int .i64 1] 26
          clear hr
          have hr := X3.r3
          have X3H := hide X3
          clear X3 hb hsl hcp HR
          cases en
          all_goals
            go_wp2
            go_region
            all_goals
              go_wp2
              exact bodyPost_ret (v := .tuple #[.slice none 0 0, .agg #[.int .i64 ((k : Int) + 1), .int .i64 1], .int .i64 7]) (by simp [results, Tryz.results6, hr, go_sem]) rfl (PrsPost.bad (by have HX1 := X3H.out.1; have hz := HX1.size; go_grown) E.out)
      · obtain rfl : k = LN.length := by omega
        have g1 : decide (LN.length < LN.length) = false := decide_eq_false (by omega)
        have EE : Hid (prsF l = (doneL acc, 0, doneE acc)) := hide (EF.out.trans (HP.out.trans (by rw [List.drop_length]; rfl)))
        obtain ⟨A7, c7, e7, hs7⟩ := ItmSl.of_row HR.out.2 (fun i h => HM.out _ (List.getElem_mem h))
        have e7 : _ = Value.slice A7 acc.length c7 := e7
        subst e7
        have SL := hide hs7
        have V := hide (fun W h => covalid_any acc A7 c7 W h)
        unfold RetW at V
        have AL := hide hal
        clear HP EF hs7 hal
        rcases Bool.eq_false_or_eq_true (vI acc) with hv | hv
        · have E : Hid (prsF l = (acc, 0, 0)) := hide (by rw [EE.out]; unfold doneL doneE; rw [hv]; rfl)
          rw [hv] at V
          clear EE
          go_wp2_with fail
          refine (V.out _ SL.out).mono ?_
          rintro e w3 ⟨rfl, hb⟩
          have X3 := HR.out.1.to hb
          have hr := X3.r2
          have FIN := hide (And.intro X3.tail (row_below HR.out.2 hb))
          clear hb X3 HR
          go_wp2
          exact bodyPost_ret (v := .tuple #[.slice A7 acc.length c7, .agg #[.int .i64 0, .int .i64 0], .int .i64 0]) (by simp [results, Tryz.results6, hr, go_sem]) rfl
            (PrsPost.yes FIN.out.1 FIN.out.2 HM.out E.out)
        · have E : Hid (prsF l = ([], 0, 1)) := hide (by rw [EE.out]; unfold doneL doneE; rw [hv]; rfl)
          rw [hv] at V
          clear EE
          go_wp2_with fail
          refine (V.out _ SL.out).mono ?_
          rintro e w3 ⟨rfl, hb⟩
          have X3 := HR.out.1.to hb
          have hr := X3.r2
          have FIN := hide X3
          clear hb X3 HR
          go_wp2
          exact bodyPost_ret (v := .tuple #[.slice none 0 0, .agg #[.int .i64 0, .int .i64 0], .int .i64 1]) (by simp [results, Tryz.results6, hr, go_sem]) rfl (PrsPost.err (by have HX1 := FIN.out.1; have hz := HX1.size; go_grown) E.out)
end Go.Proofs.YtlnlaopokelggaaGreatDoor

namespace Go.Proofs.YtlnlaopokelggaaGreatDoor
open Go Go.RowKit

theorem str_info : (Tryz.prog.info? 9).map (fun i => (i.zero, i.size, i.bytes)) = some (some (.string ByteArray.empty), 1, 16) := by kernel_rfl
theorem ext_str (s : ByteArray) (a b : Nat) : Value.string (s.extract a b) = strV ((s.data.toList.drop a).take (b - a)) := by
  congr 1
  apply ByteArray.ext
  rw [ByteArray.data_extract]
  apply Array.ext'
  simp
/-- the parts so far, and the rest -/
structure PrtRel (c : UInt8) (l : List UInt8) (L : List (List UInt8)) (fr k : Nat) : Prop where
  le : fr ≤ k
  eq : pts c l = L ++ pts c (l.drop fr)
  no : c ∉ (l.drop fr).take (k - fr)
  len : L.length ≤ k
theorem PrtRel.go {c : UInt8} {l : List UInt8} {L : List (List UInt8)} {fr k : Nat} (h : PrtRel c l L fr k) (hk : k < l.length) (hc : ¬ l[k] = c) : PrtRel c l L fr (k + 1) := by
  refine ⟨by have := h.le; omega, h.eq, ?_, by have := h.len; omega⟩
  have e : k + 1 - fr = (k - fr) + 1 := by have := h.le; omega
  have hl : k - fr < (l.drop fr).length := by have := h.le; simp; omega
  rw [e, List.take_succ_eq_append_getElem hl]
  intro hm
  rcases List.mem_append.1 hm with hm | hm
  · exact h.no hm
  · have h2 := List.mem_singleton.1 hm
    rw [List.getElem_drop] at h2
    have e3 : fr + (k - fr) = k := by have := h.le; omega
    simp only [e3] at h2
    exact hc h2.symm
theorem PrtRel.hit {c : UInt8} {l : List UInt8} {L : List (List UInt8)} {fr k : Nat} (h : PrtRel c l L fr k) (hk : k < l.length) (hc : l[k] = c) : PrtRel c l (L ++ [(l.drop fr).take (k - fr)]) (k + 1) (k + 1) := by
  refine ⟨Nat.le_refl _, ?_, by simp, by have := h.len; simp; omega⟩
  have e : l.drop fr = (l.drop fr).take (k - fr) ++ c :: l.drop (k + 1) := by
    have h1 : (l.drop fr).drop (k - fr) = l.drop k := by rw [List.drop_drop]; congr 1; have := h.le; omega
    have h2 : l.drop k = l[k] :: l.drop (k + 1) := List.drop_eq_getElem_cons hk
    rw [hc] at h2
    rw [← h2, ← h1, List.take_append_drop]
  rw [h.eq]
  conv => lhs; rw [e]
  rw [pts_at h.no, List.append_assoc]
  rfl
theorem PrtRel.done {c : UInt8} {l : List UInt8} {L : List (List UInt8)} {fr : Nat} (h : PrtRel c l L fr l.length) : pts c l = L ++ [(l.drop fr).take (l.length - fr)] := by
  have e : (l.drop fr).take (l.length - fr) = l.drop fr := List.take_of_length_le (by simp)
  have := h.no
  rw [e] at this
  rw [h.eq, e, pts_no this]
set_option maxRecDepth 100000 in
set_option maxHeartbeats 2000000 in
theorem rwords_any (s : ByteArray) (w : World) (hs : s.size ≤ 1000000) : Calls Tryz.prog 23 #[.string s] w (SplPost (pts 32 s.data.toList) w) := by
  obtain ⟨i0, hi0, hz0, hz1, hz2⟩ := info_parts str_info
  have hl : s.data.toList.length = s.size := by simp
  have DN : Hid (∀ L fr, PrtRel 32 s.data.toList L fr s.size → pts 32 s.data.toList = L ++ [(s.data.toList.drop fr).take (s.size - fr)]) := hide (fun L fr h => by rw [← hl] at h ⊢; exact h.done)
  have HT : Hid (∀ L fr k, PrtRel 32 s.data.toList L fr k → (hk : k < s.size) → s[k] = 32 → PrtRel 32 s.data.toList (L ++ [(s.data.toList.drop fr).take (k - fr)]) (k + 1) (k + 1)) := hide (fun L fr k h hk hc => h.hit (by rw [hl]; exact hk) hc)
  have GO : Hid (∀ L fr k, PrtRel 32 s.data.toList L fr k → (hk : k < s.size) → ¬ s[k] = 32 → PrtRel 32 s.data.toList L fr (k + 1)) := hide (fun L fr k h hk hc => h.go (by rw [hl]; exact hk) hc)
  have ST : Hid (PrtRel 32 s.data.toList [] 0 0) := hide ⟨Nat.le_refl _, by simp, by simp, Nat.le_refl _⟩
  have EX := hide (fun a b => ext_str s a b)
  clear hl
  go_enter Tryz.func23, Tryz.ntmps23
  go_wp2
  go_loopw [3, 4, 5] (fun v5 v6 v7 wr => ∃ (L : List (List UInt8)) (fr k : Nat), k ≤ s.size ∧ fr ≤ k ∧ L.length ≤ k ∧ v7 = .int .i64 k ∧ v6 = .int .i64 fr ∧ Hid (PrtRel 32 s.data.toList L fr k) ∧
    Hid (Below w.heap.size w wr ∧ wr.ownsRow w.heap.size 9 1 v5 L.length (L.map strV))) (fun _ _ v7 _ => s.size - (intOf v7).toNat)
  case atStart => exact ⟨[], 0, 0, Nat.zero_le _, Nat.le_refl _, Nat.le_refl _, rfl, rfl, ST, hide ⟨Below.refl _ _, World.ownsRow_nil _ _ _ _⟩⟩
  case round =>
    obtain ⟨L, fr, k, hk, hfr, hLk, rfl, rfl, HP, HR⟩ := hrel
    clear ST
    by_cases hlt : k < s.size
    · have hbd := byteD s[k]
      have ek := EX.out fr k
      by_cases hc : s[k] = 32
      · have q : ((s[k].toNat : Int) == 32) = true := by rw [hc]; rfl
        have HP2 := hide (HT.out L fr k HP.out hlt hc)
        clear hc HP
        have eX := hide ek
        clear ek
        go_wp2_with (at_builtin; refine wpList_append_own _ rfl _ _ 58 rfl w.heap.size 9 i0 (.string ByteArray.empty) 1 16 Tryz.underlying58 hi0 hz0 hz1 hz2 rfl (by decide) _ L.length (L.map strV) rfl (HR.out.2.alloc (.cells #[.string (s.extract fr k)] 9)) ⟨wr.heap.size, 0, none⟩ 1 1 [.string (s.extract fr k)] rfl rfl (World.news_of_block (cs := #[.string (s.extract fr k)]) (t := 9) (fr := (0, 0)) (heap_alloc_new wr _)) (by simp [Value.oneCell']) (by unfold maxLen; omega) (by omega) (by have := HR.out.1.size; simp; omega) ?_; intro v' w4 hown4 hgrow _)
        have B5 : Below w.heap.size w w4 := (HR.out.1.alloc HR.out.1.size (.cells #[.string (s.extract fr k)] 9)).grown hgrow (by have := HR.out.1.size; simp; omega) (fun k hk => ((HR.out.2.alloc (.cells #[.string (s.extract fr k)] 9)).lt k hk).1)
        have B4 := hide (And.intro B5 hown4)
        clear B5 hown4 hgrow
        go_roundw
        case rel => exact ⟨L ++ [(s.data.toList.drop fr).take (k - fr)], k + 1, k + 1, by omega, Nat.le_refl _, by simp; omega, by go_num, by go_num, HP2, hide ⟨B4.out.1, by rw [List.map_append, List.length_append]; show World.ownsRow _ _ _ _ _ _ (L.map strV ++ [strV _]); rw [← eX.out]; exact B4.out.2⟩⟩
        case measure => simp [intOf]; omega
      · have q : ((s[k].toNat : Int) == 32) = false := by
          simp only [beq_eq_false_iff_ne, ne_eq]
          intro e
          exact hc (UInt8.toNat_inj.1 (by rw [show (32 : UInt8).toNat = 32 from rfl]; omega))
        have HP2 := hide (GO.out L fr k HP.out hlt hc)
        clear hc HP ek
        go_wp2
        go_roundw
        case rel => exact ⟨L, fr, k + 1, by omega, by omega, by omega, by go_num, rfl, HP2, HR⟩
        case measure => simp [intOf]; omega
    · have e : k = s.size := by omega
      subst e
      have ek := EX.out fr s.size
      have E := hide (DN.out L fr HP.out)
      clear HP
      have eX := hide ek
      clear ek
      go_wp2_with (at_builtin; refine wpList_append_own _ rfl _ _ 58 rfl w.heap.size 9 i0 (.string ByteArray.empty) 1 16 Tryz.underlying58 hi0 hz0 hz1 hz2 rfl (by decide) _ L.length (L.map strV) rfl (HR.out.2.alloc (.cells #[.string (s.extract fr s.size)] 9)) ⟨wr.heap.size, 0, none⟩ 1 1 [.string (s.extract fr s.size)] rfl rfl (World.news_of_block (cs := #[.string (s.extract fr s.size)]) (t := 9) (fr := (0, 0)) (heap_alloc_new wr _)) (by simp [Value.oneCell']) (by unfold maxLen; omega) (by omega) (by have := HR.out.1.size; simp; omega) ?_; intro v' w4 hown4 hgrow _)
      have B5 : Below w.heap.size w w4 := (HR.out.1.alloc HR.out.1.size (.cells #[.string (s.extract fr s.size)] 9)).grown hgrow (by have := HR.out.1.size; simp; omega) (fun k hk => ((HR.out.2.alloc (.cells #[.string (s.extract fr s.size)] 9)).lt k hk).1)
      have hrow : w4.ownsRow w.heap.size 9 1 v' (L.length + 1) ((L ++ [(s.data.toList.drop fr).take (s.size - fr)]).map strV) := by rw [List.map_append]; show w4.ownsRow _ _ _ _ _ (L.map strV ++ [strV _]); rw [← eX.out]; exact hown4
      obtain ⟨A, cp, rfl, hsl, hcp⟩ := StrSl.of_row hrow (by simp; omega)
      have FIN := hide (And.intro B5 (And.intro hsl (And.intro hcp E.out)))
      clear B5 hsl hcp hrow hown4 hgrow E
      go_wp2
      go_ret
      exact ⟨FIN.out.1, A, cp, by rw [FIN.out.2.2.2]; rfl, by rw [FIN.out.2.2.2]; exact FIN.out.2.1, by rw [FIN.out.2.2.2]; exact FIN.out.2.2.1⟩
end Go.Proofs.YtlnlaopokelggaaGreatDoor

namespace Go.Proofs.YtlnlaopokelggaaGreatDoor
open Go.RowKit

set_option maxHeartbeats 400000 in
theorem rletter_any (c : Int) (w : World) : Calls Tryz.prog 47 #[.int .u8 c] w fun e w' => e = .returned (.bool (letB c)) ∧ w = w' := by
  by_cases h1 : 97 ≤ c <;> by_cases h2 : c ≤ 122 <;> by_cases h3 : 65 ≤ c <;> by_cases h4 : c ≤ 90
  all_goals
    go_enter Tryz.func47, Tryz.ntmps47
    go_wp2
    go_ret
    refine ⟨ret_bool ?_, rfl⟩
    simp [letB, h1, h2, h3, h4]
set_option maxHeartbeats 400000 in
theorem rdigit_any (c : Int) (w : World) : Calls Tryz.prog 77 #[.int .u8 c] w fun e w' => e = .returned (.bool (digB c)) ∧ w = w' := by
  by_cases h1 : 48 ≤ c <;> by_cases h2 : c ≤ 57
  all_goals
    go_enter Tryz.func77, Tryz.ntmps77
    go_wp2
    go_ret
    refine ⟨ret_bool ?_, rfl⟩
    simp [digB, h1, h2]

set_option maxHeartbeats 1000000 in
theorem rword_any (s : ByteArray) (w : World) (hs : s.size ≤ maxLen) :
    Calls Tryz.prog 48 #[.string s, .int .i64 0] w fun e w' => e = .returned (.int .i64 (wl s.data.toList)) ∧ w = w' := by
  unfold maxLen at hs
  go_enter Tryz.func48, Tryz.ntmps48
  go_wp2
  go_loop [1] (fun i => ∃ k : Nat, k ≤ s.size ∧ i = .int .i64 k ∧ Hid (wl s.data.toList = k + wl (s.data.toList.drop k))) (fun i => s.size - (intOf i).toNat)
  case atStart => exact ⟨0, Nat.zero_le _, rfl, hide (by simp)⟩
  case round =>
    obtain ⟨k, hk, rfl, hw⟩ := hrel
    by_cases hlt : k < s.size
    · have hat := hide (wl_at s k hlt hw.out)
      have hbd := byte_bd s[k]
      by_cases h1 : letB (s[k].toNat : Int) = true
      · have h1' := hide (wd_let h1)
        go_wp2_with (first | (go_at_call 47; refine (rletter_any _ _).mono ?_; rintro e w' ⟨rfl, rfl⟩))
        go_round
        case rel => exact ⟨k + 1, by omega, by go_num, hide (by have := hat.out; rw [if_pos h1'.out] at this; omega)⟩
        case measure => simp [intOf]; omega
      · have h1 : letB (s[k].toNat : Int) = false := by simpa using h1
        by_cases h2 : digB (s[k].toNat : Int) = true
        · have h1' := hide (wd_dig h2)
          go_wp2_with (first | (go_at_call 47; refine (rletter_any _ _).mono ?_; rintro e w' ⟨rfl, rfl⟩) | (go_at_call 77; refine (rdigit_any _ _).mono ?_; rintro e w' ⟨rfl, rfl⟩))
          go_round
          case rel => exact ⟨k + 1, by omega, by go_num, hide (by have := hat.out; rw [if_pos h1'.out] at this; omega)⟩
          case measure => simp [intOf]; omega
        · have h2 : digB (s[k].toNat : Int) = false := by simpa using h2
          have h3' := hide (wd_und h1 h2)
          by_cases h3 : ((s[k].toNat : Int) == 95) = true
          · have h3'' := hide h3
            go_wp2_with (first | (go_at_call 47; refine (rletter_any _ _).mono ?_; rintro e w' ⟨rfl, rfl⟩) | (go_at_call 77; refine (rdigit_any _ _).mono ?_; rintro e w' ⟨rfl, rfl⟩))
            go_round
            case rel => exact ⟨k + 1, by omega, by go_num, hide (by have := hat.out; rw [if_pos (h3'.out.trans h3''.out)] at this; omega)⟩
            case measure => simp [intOf]; omega
          · have h3 : ((s[k].toNat : Int) == 95) = false := by simpa using h3
            have h3'' := hide h3
            go_wp2_with (first | (go_at_call 47; refine (rletter_any _ _).mono ?_; rintro e w' ⟨rfl, rfl⟩) | (go_at_call 77; refine (rdigit_any _ _).mono ?_; rintro e w' ⟨rfl, rfl⟩))
            go_ret
            refine ⟨ret_int ?_, rfl⟩
            have := hat.out
            rw [if_neg (by rw [h3'.out, h3''.out]; simp)] at this
            omega
    · have he : k = s.size := by omega
      have hq := hide (wl_end s (he ▸ hw.out))
      clear he
      go_wp2
      go_ret
      refine ⟨ret_int ?_, rfl⟩
      have := hq.out
      omega

set_option maxHeartbeats 1000000 in
theorem risname_any (s : ByteArray) (w : World) (hs : s.size ≤ maxLen) :
    Calls Tryz.prog 24 #[.string s] w fun e w' => e = .returned (.bool (nameB s.data.toList)) ∧ w = w' := by
  have hs' := hs
  unfold maxLen at hs
  by_cases h0 : s.size = 0
  · have hn := hide (nameB_nil s h0)
    have hd : decide (s.size = 0) = true := by simpa using h0
    have hd : ((s.size : Int) == 0) = true := by simpa using h0
    go_enter Tryz.func24, Tryz.ntmps24
    go_wp2
    go_ret
    exact ⟨ret_bool hn.out.symm, rfl⟩
  · have hn := hide (nameB_at s (by omega))
    have hp : 0 < s.size := by omega
    have hd : ((s.size : Int) == 0) = false := by simpa using h0
    by_cases h1 : s.size ≤ 20 <;> by_cases h2 : letB (s[0].toNat : Int) = true
    all_goals
      go_enter Tryz.func24, Tryz.ntmps24
      go_wp2_with (first | (go_at_call 47; refine (rletter_any _ _).mono ?_; rintro e w' ⟨rfl, rfl⟩) | (go_at_call 48; refine (rword_any _ _ hs').mono ?_; rintro e w' ⟨rfl, rfl⟩))
      go_ret
      refine ⟨ret_bool ?_, rfl⟩
      rw [hn.out]
      simp [h1, h2]
    rw [Bool.eq_iff_iff]; simp; omega
end Go.Proofs.YtlnlaopokelggaaGreatDoor

namespace Go.Proofs.YtlnlaopokelggaaGreatDoor
open Go Go.RowKit

theorem vI_long {l : List Itm} (h : 1000 < l.length) : vI l = false := by
  unfold vI; rw [decide_eq_false (by omega)]; rfl
theorem vI_bad {l : List Itm} {k : Nat} (hk : k < l.length) (h : itB l[k] = false) : vI l = false := by
  cases e : vI l with
  | false => rfl
  | true => rw [(vI_iff.1 e).2 _ (List.getElem_mem hk)] at h; cases h
theorem vI_all {l : List Itm} (hn : ¬ 1000 < l.length) (h : ∀ i (hi : i < l.length), itB l[i] = true) : vI l = true := by
  refine vI_iff.2 ⟨by omega, fun x hx => ?_⟩
  obtain ⟨i, hi, rfl⟩ := List.mem_iff_getElem.1 hx
  exact h i hi
set_option maxRecDepth 100000 in
set_option maxHeartbeats 4000000 in
theorem rvalid48_any (l : List Itm) (A : Option Addr) (cap : Nat) (w : World) (hl : ItmSl w A l) : Calls Tryz.prog 10 #[.slice A l.length cap] w (RetW (.bool (vI l)) w) := by
  have hlen : l.length ≤ 9223372036854775807 := by have := hl.1.1; unfold maxLen at this; omega
  have HL := hide hl
  have RN := hide (fun (s : ByteArray) W h => risname_any s W h)
  have VL := hide (fun h => vI_long (l := l) h)
  have VB := hide (fun k hk h => vI_bad (l := l) (k := k) hk h)
  have VA := hide (fun hn h => vI_all (l := l) hn h)
  generalize vI l = v at *
  clear hl
  by_cases h0 : 1000 < l.length
  · have g0 : decide (1000 < (l.length : Int)) = true := decide_eq_true (by omega)
    have E := hide (VL.out h0)
    go_enter Tryz.func10, Tryz.ntmps10
    go_wp2
    go_ret
    exact ⟨ret_bool E.out.symm, Below.refl _ _⟩
  have g0 : decide (1000 < (l.length : Int)) = false := decide_eq_false (by omega)
  go_enter Tryz.func10, Tryz.ntmps10
  go_wp2
  go_loopw [3] (fun v3 wr => ∃ k : Nat, k ≤ l.length ∧ v3 = .int .i64 (k : Int) ∧ Hid (Below w.heap.size w wr) ∧ Hid (∀ i (hi : i < l.length), i < k → itB l[i] = true)) (fun v _ => l.length - (intOf v).toNat)
  case atStart => exact ⟨0, by omega, rfl, hide (Below.refl _ _), hide (fun _ _ h => by omega)⟩
  case round =>
    obtain ⟨k, hk, rfl, HB, HN⟩ := hrel
    by_cases hlt : k < l.length
    · have g1 : decide (k < l.length) = true := decide_eq_true hlt
      have g2 : (0 : Int) ≤ (k : Int) := by omega
      have g3 : (k : Int) < (l.length : Int) := by omega
      obtain ⟨b, off, rfl, hbl, hat⟩ := HL.out.2 (by omega)
      obtain ⟨c0, c1, c2⟩ := hat k hlt
      replace c0 := (HB.out.cell (p := ⟨b, off + k * 3, none⟩) hbl).trans c0
      replace c1 := (HB.out.cell (p := ⟨b, off + k * 3 + 1, none⟩) hbl).trans c1
      replace c2 := (HB.out.cell (p := ⟨b, off + k * 3 + 2, none⟩) hbl).trans c2
      have RNk := hide (fun W => RN.out l[k].nm W (HL.out.1.2 k hlt))
      have BAD := hide (fun (h : itB l[k] = false) => VB.out k hlt h)
      have OK := hide (fun (h : itB l[k] = true) i (hi : i < l.length) (hik : i < k + 1) => (show itB l[i] = true by
        by_cases e : i = k
        · subst e; exact h
        · exact HN.out i hi (by omega)))
      have EI : Hid (itB l[k] = (nameB l[k].nm.data.toList && (decide (-1073741824 ≤ l[k].am) && decide (l[k].am ≤ 1073741824)) && (decide (0 ≤ l[k].pr) && decide (l[k].pr ≤ 1073741824)))) := hide rfl
      clear hat VL VB VA
      generalize l[k] = x at *
      generalize itB x = ok at *
      generalize nameB x.nm.data.toList = b0 at *
      have ways : (b0 = false ∧ ok = false) ∨ (b0 = true ∧ decide (x.am < -1073741824) = true ∧ ok = false) ∨ (b0 = true ∧ decide (x.am < -1073741824) = false ∧ decide (1073741824 < x.am) = true ∧ ok = false) ∨
          (b0 = true ∧ decide (x.am < -1073741824) = false ∧ decide (1073741824 < x.am) = false ∧ decide (x.pr < 0) = true ∧ ok = false) ∨
          (b0 = true ∧ decide (x.am < -1073741824) = false ∧ decide (1073741824 < x.am) = false ∧ decide (x.pr < 0) = false ∧ decide (1073741824 < x.pr) = true ∧ ok = false) ∨
          (b0 = true ∧ decide (x.am < -1073741824) = false ∧ decide (1073741824 < x.am) = false ∧ decide (x.pr < 0) = false ∧ decide (1073741824 < x.pr) = false ∧ ok = true) := by
        rw [EI.out]
        cases b0
        · exact .inl ⟨rfl, rfl⟩
        · simp only [Bool.true_and, decide_eq_true_eq, decide_eq_false_iff_not, Bool.and_eq_true, Bool.and_eq_false_iff, true_and]
          simp
          omega
      clear EI
      rcases ways with ⟨rfl, rfl⟩ | ⟨rfl, y1, rfl⟩ | ⟨rfl, y1, y2, rfl⟩ | ⟨rfl, y1, y2, y3, rfl⟩ | ⟨rfl, y1, y2, y3, y4, rfl⟩ | ⟨rfl, y1, y2, y3, y4, rfl⟩
      all_goals
        first
          | (have E := hide (BAD.out rfl)
             clear BAD OK
             go_wp2_with fail
             refine (RNk.out _).mono ?_
             rintro e w' ⟨rfl, rfl⟩
             go_wp2
             go_ret
             exact ⟨ret_bool E.out.symm, HB.out⟩)
          | (have E := hide (OK.out rfl)
             clear BAD OK
             go_wp2_with fail
             refine (RNk.out _).mono ?_
             rintro e w' ⟨rfl, rfl⟩
             go_wp2
             go_roundw
             case rel => exact ⟨k + 1, by omega, by go_num, HB, E⟩
             case measure => simp [intOf]; omega)
    · have E := hide (VA.out h0 (fun i hi => HN.out i hi (by omega)))
      have g1 : decide (k < l.length) = false := decide_eq_false hlt
      go_wp2
      go_ret
      exact ⟨ret_bool E.out.symm, HB.out⟩
end Go.Proofs.YtlnlaopokelggaaGreatDoor
