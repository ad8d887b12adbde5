/- Parts of one proof, joined: The reference's Parse of bills (sewershedref48): what it returns; nothing that was there is turned. (Printed by gen_ct.py.). strings.Builder as a call's own: what is written so far, and that the writers leave the rest as it was. The program's Text of bills: what it returns; nothing that was there is turned. (Printed by gen_ct.py.). The reference's Text of bills (sewershedref48), for a valid bill: what it returns; nothing that was there is turned. (Printed by gen_ct.py.). The bound of the laws on bills; nothing that was there is turned. (Printed by gen_ct.py.). slices.Equal at one list of items. -/
import Derived.Test.YtlnlaopokelggaaGreatDoorPkCostsTexts15
import Derived.Test.YtlnlaopokelggaaGreatDoorPkCostsTexts17
import Derived.Test.YtlnlaopokelggaaGreatDoorPkCostsTexts16
import Derived.Shelf.Strings.BuilderK
import Derived.Test.YtlnlaopokelggaaGreatDoorProg
import Derived.Test.YtlnlaopokelggaaGreatDoorPkCostsTexts2
import Derived.Lib.OthersKept
import Derived.Test.YtlnlaopokelggaaGreatDoorPkCostsTexts14
import Derived.Test.YtlnlaopokelggaaGreatDoorPkCostsTexts7
namespace Go.Proofs.YtlnlaopokelggaaGreatDoor
open Go Go.RowKit

set_option maxRecDepth 100000 in
set_option maxHeartbeats 4000000 in
theorem rparse48_any (s : ByteArray) (w : World) (hs : s.size ≤ 900000) : Calls Tryz.prog 7 #[.string s] w (PrsPost s.data.toList w) := by
  obtain ⟨i0, hi0, hz0, hz1, hz2⟩ := info_parts itm_info
  have X := (Own.start w).alloc #[.int .i64 0, .int .i64 0] 26
  have hr := X.r1
  have LS := hide (fun (k : Nat) (h : k < s.size) => (congrArg lnN (drop_byteD s k h)).trans (lnN_cons s[k] (s.data.toList.drop (k + 1))))
  have LE : Hid (∀ k : Nat, (s.data.toList.drop (k + 1) = [] ↔ s.size ≤ k + 1)) := hide (fun k => by rw [List.drop_eq_nil_iff]; simp)
  have L0 : Hid (lnN s.data.toList = (lns s.data.toList).length) := hide (lnN_lns _)
  have LZ : Hid (lnN (s.data.toList.drop s.size) = 0) := hide (by rw [List.drop_of_length_le (by simp)]; rfl)
  have XH := hide X
  clear X
  go_enter Tryz.func7, Tryz.ntmps7
  go_wp2
  clear hr
  go_loopw [5, 6] (fun v5 v6 wr => ∃ k n : Nat, k ≤ s.size ∧ n ≤ k ∧ v6 = .int .i64 k ∧ v5 = .int .i64 n ∧ Hid (n + lnN (s.data.toList.drop k) = lnN s.data.toList) ∧ Hid (Own w wr [(w.heap.size, 26, #[.int .i64 0, .int .i64 0])])) (fun _ v6 _ => s.size - (intOf v6).toNat)
  case atStart => exact ⟨0, 0, Nat.zero_le _, Nat.le_refl _, rfl, rfl, hide (by simp), XH⟩
  case round =>
    obtain ⟨k, n, hk, hn, rfl, rfl, HN, HX⟩ := hrel
    by_cases hlt : k < s.size
    · have i1 := IntWalk.i64_in ((s.size : Int) - 1) (by omega)
      have i2 := IntWalk.i64_in ((k : Int) + 1) (by omega)
      have i3 := IntWalk.i64_in ((n : Int) + 1) (by omega)
      have ls := LS.out k hlt
      have le := LE.out k
      by_cases hc : s[k] = 10
      · have q : ((s[k].toNat : Int) == 10) = true := by rw [hc]; rfl
        have HN2 : Hid (n + 1 + lnN (s.data.toList.drop (k + 1)) = lnN s.data.toList) := hide (by have := HN.out; rw [ls, if_pos (.inl hc)] at this; omega)
        clear hc ls le HN LS
        go_wp2
        go_roundw
        case rel => exact ⟨k + 1, n + 1, by omega, by omega, by go_num, by go_num, HN2, HX⟩
        case measure => simp [intOf]; omega
      · have q : ((s[k].toNat : Int) == 10) = false := by
          simp only [beq_eq_false_iff_ne, ne_eq]
          intro e
          exact hc (UInt8.toNat_inj.1 (by rw [show (10 : UInt8).toNat = 10 from rfl]; omega))
        by_cases hz : k + 1 = s.size
        · have q2 : ((k : Int) == (s.size : Int) - 1) = true := by simp; omega
          have HN2 : Hid (n + 1 + lnN (s.data.toList.drop (k + 1)) = lnN s.data.toList) := hide (by have := HN.out; rw [ls, if_pos (.inr (le.2 (by omega)))] at this; omega)
          clear hc ls le HN LS
          go_wp2
          go_roundw
          case rel => exact ⟨k + 1, n + 1, by omega, by omega, by go_num, by go_num, HN2, HX⟩
          case measure => simp [intOf]; omega
        · have q2 : ((k : Int) == (s.size : Int) - 1) = false := by simp; omega
          have HN2 : Hid (n + lnN (s.data.toList.drop (k + 1)) = lnN s.data.toList) := hide (by have := HN.out; rw [ls, if_neg (by rintro (h | h); exact hc h; have := le.1 h; omega)] at this; omega)
          clear hc ls le HN LS
          go_wp2
          go_roundw
          case rel => exact ⟨k + 1, n, by omega, by omega, by go_num, rfl, HN2, HX⟩
          case measure => simp [intOf]; omega
    · obtain rfl : k = s.size := by omega
      have nl : n = (lns s.data.toList).length := by have := HN.out; rw [LZ.out, L0.out] at this; omega
      have hr := HX.out.r1
      have sz : s.data.toList.length = s.size := by simp
      have PF : Hid (prsF s.data.toList = if 262144 < s.size ∨ 1000 < n then ([], 0, 4) else prs (pts 10 s.data.toList) 0 []) := hide (by unfold prsF; rw [nl, sz])
      clear nl sz HN LS LE L0 LZ
      by_cases h1 : 262144 < s.size
      · have q1 : decide ((262144 : Int) < (s.size : Int)) = true := decide_eq_true (by omega)
        have E := hide (PF.out.trans (if_pos (.inl h1)))
        clear h1 PF
        go_wp2
        exact bodyPost_ret (v := .tuple #[.slice none 0 0, .agg #[.int .i64 0, .int .i64 0], .int .i64 4]) (by simp [results, Tryz.results7, hr, go_sem]) rfl (PrsPost.err (by have HX1 := HX.out.1; have hz := HX1.size; go_grown) E.out)
      have q1 : decide ((262144 : Int) < (s.size : Int)) = false := decide_eq_false (by omega)
      by_cases h2 : 1000 < n
      · have q2 : decide ((1000 : Int) < (n : Int)) = true := decide_eq_true (by omega)
        have E := hide (PF.out.trans (if_pos (.inr h2)))
        clear h1 h2 PF
        go_wp2
        exact bodyPost_ret (v := .tuple #[.slice none 0 0, .agg #[.int .i64 0, .int .i64 0], .int .i64 4]) (by simp [results, Tryz.results7, hr, go_sem]) rfl (PrsPost.err (by have HX1 := HX.out.1; have hz := HX1.size; go_grown) E.out)
      have q2 : decide ((1000 : Int) < (n : Int)) = false := decide_eq_false (by omega)
      have EF := hide (PF.out.trans (if_neg (by omega)))
      clear PF h1 h2
      obtain ⟨w2, rfl⟩ : ∃ z, z = wr := ⟨_, rfl⟩
      have GO : Hid (∀ acc fr k, PsRel s.data.toList acc fr k → (hk : k < s.size) → ¬ s[k] = 10 → PsRel s.data.toList acc fr (k + 1)) := hide (fun acc fr k h hk hc => h.go (by simpa using hk) hc)
      have DN : Hid (∀ acc fr, PsRel s.data.toList acc fr s.size → fr = s.size → prs (pts 10 s.data.toList) 0 [] = (doneL acc, 0, doneE acc)) := hide (fun acc fr h e => (show PsRel s.data.toList acc s.data.toList.length s.data.toList.length from (show s.size = s.data.toList.length by simp) ▸ (e ▸ h)).done)
      have LEN : Hid (∀ acc fr k, PsRel s.data.toList acc fr k → fr ≤ k ∧ acc.length ≤ fr) := hide (fun acc fr k h => ⟨h.le, h.len⟩)
      go_wp2
      clear hr
      go_loopw [7, 8, 9] (fun v7 v8 v9 wr => ∃ (acc : List Itm) (fr k : Nat), k ≤ s.size + 1 ∧ fr ≤ k ∧ acc.length ≤ k ∧ v9 = .int .i64 k ∧ v8 = .int .i64 fr ∧
        Hid ((k ≤ s.size ∧ PsRel s.data.toList acc fr k) ∨ (k = s.size + 1 ∧ prs (pts 10 s.data.toList) 0 [] = (doneL acc, 0, doneE acc))) ∧ Hid (∀ x ∈ acc, x.nm.size ≤ maxLen) ∧
        Hid (Own w wr [(w.heap.size, 26, #[.int .i64 0, .int .i64 0])] ∧ wr.ownsRow w.heap.size 34 3 v7 acc.length (flatItm acc))) (fun _ _ v9 _ => s.size + 1 - (intOf v9).toNat)
      case atStart => exact ⟨[], 0, 0, by omega, Nat.le_refl _, Nat.le_refl _, rfl, rfl, hide (.inl ⟨Nat.zero_le _, PsRel.start _⟩), hide (fun x hx => by cases hx), hide ⟨HX.out, World.ownsRow_nil _ _ _ _⟩⟩
      case round =>
        obtain ⟨acc, fr, k, hk, hfr, ha, rfl, rfl, HP, HM, HR⟩ := hrel
        have i2 := IntWalk.i64_in ((k : Int) + 1) (by omega)
        by_cases hlt : k < s.size
        · have PR : Hid (PsRel s.data.toList acc fr k) := hide (by rcases HP.out with h | h; exact h.2; omega)
          by_cases hc : s[k] = 10
          · have q : ((s[k].toNat : Int) == 10) = true := by rw [hc]; rfl
            have q' : ((s[k].toNat : Int) != 10) = false := by simp [bne, q]
            have ex : (s.extract fr k).data.toList = (s.data.toList.drop fr).take (k - fr) := by rw [ByteArray.data_extract]; simp
            have RW : Hid (∀ W, Calls Tryz.prog 23 #[.string (s.extract fr k)] W (SplPost (pts 32 ((s.data.toList.drop fr).take (k - fr))) W)) := hide (fun W => by
              have h := rwords_any (s.extract fr k) W (by simp; omega)
              rw [ex] at h
              exact h)
            have HIT : Hid (cnvB (pts 32 ((s.data.toList.drop fr).take (k - fr))) = true → PsRel s.data.toList (acc ++ [cnvC (pts 32 ((s.data.toList.drop fr).take (k - fr)))]) (k + 1) (k + 1)) := hide (fun h => PR.out.hit (by simpa using hlt) hc h)
            have BAD : Hid (cnvB (pts 32 ((s.data.toList.drop fr).take (k - fr))) = false → prsF s.data.toList = ([], (acc.length : Int) + 1, 7)) := hide (fun h => EF.out.trans (PR.out.bad (by simpa using hlt) hc h))
            have WL : Hid (∀ p ∈ pts 32 ((s.data.toList.drop fr).take (k - fr)), p.length ≤ 900000) := hide (fun p hp => by
              have := pts_len p hp
              rw [List.length_take, List.length_drop] at this
              have : s.data.toList.length = s.size := by simp
              omega)
            generalize pts 32 ((s.data.toList.drop fr).take (k - fr)) = ws at *
            have i4 := IntWalk.i64_in ((acc.length : Int) + 1) (by omega)
            obtain ⟨A7, c7, e7, hs7⟩ := ItmSl.of_row HR.out.2 (fun i h => HM.out _ (List.getElem_mem h))
            have e7 : _ = Value.slice A7 acc.length c7 := e7
            subst e7
            clear hc HP PR GO DN LEN EF ex hs7
            by_cases h3 : ws.length = 3
            · obtain ⟨a, b, c, rfl⟩ : ∃ a b c, ws = [a, b, c] := by
                match ws, h3 with
                | [a, b, c], _ => exact ⟨a, b, c, rfl⟩
              clear h3
              have la := WL.out a (by simp)
              have lb := WL.out b (by simp)
              have lc := WL.out c (by simp)
              have NA := hide (fun W => risname_any ⟨a.toArray⟩ W (by show a.length ≤ maxLen; unfold maxLen; omega))
              rw [show (⟨a.toArray⟩ : ByteArray).data.toList = a by simp] at NA
              have NB := hide (fun W => rnumber_any ⟨b.toArray⟩ W (by show b.length ≤ _; omega))
              rw [show (⟨b.toArray⟩ : ByteArray).data.toList = b by simp] at NB
              have NC := hide (fun W => rnumber_any ⟨c.toArray⟩ W (by show c.length ≤ _; omega))
              rw [show (⟨c.toArray⟩ : ByteArray).data.toList = c by simp] at NC
              have LA : Hid ((⟨a.toArray⟩ : ByteArray).size ≤ maxLen) := hide (by show a.length ≤ maxLen; unfold maxLen; omega)
              have HIT2 : Hid (nameB a = true → ctB b = true → ctB c = true → PsRel s.data.toList (acc ++ [⟨⟨a.toArray⟩, ctV b, ctV c⟩]) (k + 1) (k + 1)) := hide (fun h1 h2 h3 => HIT.out (by simp [cnvB, h1, h2, h3]))
              have BAD2 : Hid ((nameB a && ctB b && ctB c) = false → prsF s.data.toList = ([], (acc.length : Int) + 1, 7)) := hide (fun h => BAD.out h)
              unfold RetV at NB NC
              clear HIT BAD WL la lb lc
              generalize nameB a = na at *
              generalize ctB b = nb at *
              generalize ctB c = nc at *
              generalize ctV b = vb at *
              generalize ctV c = vc at *
              go_wp2_with fail
              refine (RW.out _).mono ?_
              rintro e w3 ⟨hb, A, cp, rfl, hsl, hcp⟩
              have X3 := (HR.out.1.to hb).alloc #[.int .i64 ((acc.length : Int) + 1), .int .i64 1] 26
              have R3 := (row_below HR.out.2 hb).alloc (.cells #[.int .i64 ((acc.length : Int) + 1), .int .i64 1] 26)
              obtain ⟨p, off, rfl, hpl, hat⟩ := (hsl.below ((Below.refl _ _).alloc (Nat.le_refl _) (.cells #[.int .i64 ((acc.length : Int) + 1), .int .i64 1] 26))).2 (by simp)
              have c0 : (w3.alloc (.cells #[.int .i64 ((acc.length : Int) + 1), .int .i64 1] 26)).cell? ⟨p, off + 0, none⟩ = some (strV a) := hat 0 (by simp)
              have CC := hide (fun W (h : Below (w3.alloc (.cells #[.int .i64 ((acc.length : Int) + 1), .int .i64 1] 26)).heap.size (w3.alloc (.cells #[.int .i64 ((acc.length : Int) + 1), .int .i64 1] 26)) W) => And.intro ((h.cell (p := ⟨p, off + 0, none⟩) hpl).trans (hat 0 (by simp))) (And.intro ((h.cell (p := ⟨p, off + 1, none⟩) hpl).trans (hat 1 (by simp))) ((h.cell (p := ⟨p, off + 2, none⟩) hpl).trans (hat 2 (by simp)))))
              rw [Nat.add_zero] at c0
              have hr := X3.r2
              have X3H := hide X3
              have R3H := hide R3
              clear X3 R3 hb hsl hcp HR hat RW
              go_wp2_with fail
              refine (NA.out _).mono ?_
              rintro e w4 ⟨rfl, rfl⟩
              cases na
              · have E := hide (BAD2.out rfl)
                clear HIT2 BAD2 NB NC
                go_wp2
                go_region
                all_goals
                  go_wp2
                  exact bodyPost_ret (v := .tuple #[.slice none 0 0, .agg #[.int .i64 ((acc.length : Int) + 1), .int .i64 1], .int .i64 7]) (by simp [results, Tryz.results7, hr, go_sem]) rfl (PrsPost.bad (by have HX1 := X3H.out.1; have hz := HX1.size; go_grown) E.out)
              · obtain ⟨-, c1, -⟩ := CC.out _ (Below.refl _ _)
                go_wp2_with fail
                refine (NB.out _).mono ?_
                rintro e w5 ⟨rfl, hb5⟩
                have X5H := hide (X3H.out.to hb5)
                have R5H := hide (row_below R3H.out hb5)
                obtain ⟨-, -, c2⟩ := CC.out _ hb5
                have B5H := hide hb5
                clear hr c0 c1 X3H R3H hb5
                go_wp2_with fail
                refine (NC.out _).mono ?_
                rintro e w6 ⟨rfl, hb6⟩
                have X6H := hide (X5H.out.to hb6)
                have R6H := hide (row_below R5H.out hb6)
                obtain ⟨c0, -, -⟩ := CC.out _ (below_via B5H.out B5H.out.size hb6)
                rw [Nat.add_zero] at c0
                clear c2 X5H R5H hb6 B5H CC
                have hr := X6H.out.r2
                have ways : (nb = false ∨ nb = true ∧ nc = false) ∨ (nb = true ∧ nc = true) := by cases nb <;> cases nc <;> simp
                rcases ways with hw | ⟨rfl, rfl⟩
                · have E := hide (BAD2.out (by rcases hw with rfl | ⟨rfl, rfl⟩ <;> simp))
                  clear HIT2 BAD2 R6H c0
                  rcases hw with rfl | ⟨rfl, rfl⟩
                  all_goals
                    go_wp2
                    go_region
                    all_goals
                      go_wp2
                      exact bodyPost_ret (v := .tuple #[.slice none 0 0, .agg #[.int .i64 ((acc.length : Int) + 1), .int .i64 1], .int .i64 7]) (by simp [results, Tryz.results7, hr, go_sem]) rfl (PrsPost.bad (by have HX1 := X6H.out.1; have hz := HX1.size; go_grown) E.out)
                · have HP2 := hide (Or.inl (b := k + 1 = s.size + 1 ∧ prs (pts 10 s.data.toList) 0 [] = (doneL (acc ++ [⟨⟨a.toArray⟩, vb, vc⟩]), 0, doneE (acc ++ [⟨⟨a.toArray⟩, vb, vc⟩]))) (And.intro (show k + 1 ≤ s.size by omega) (HIT2.out (by trivial) (by trivial) (by trivial))))
                  have HM2 : Hid (∀ x ∈ acc ++ [(⟨⟨a.toArray⟩, vb, vc⟩ : Itm)], x.nm.size ≤ maxLen) := hide (fun x hx => by
                    rcases List.mem_append.1 hx with h | h
                    · exact HM.out x h
                    · rw [List.mem_singleton.1 h]; exact LA.out)
                  have f4 : ∀ u ∈ ([strV a, .int .i64 vb, .int .i64 vc] : List Value), u.oneCell' = true := by intro u hu; simp at hu; rcases hu with rfl | rfl | rfl <;> rfl
                  have f1 : acc.length + 1 ≤ maxLen := by unfold maxLen; omega
                  have f2 : (acc.length + 1) * 32 ≤ 140737488355328 := by omega
                  have f3 : w.heap.size ≤ (w6.alloc (.cells #[strV a, .int .i64 vb, .int .i64 vc] 34)).heap.size := by have := X6H.out.1.size; simp at this ⊢; omega
                  have el : Hid ((acc ++ [(⟨⟨a.toArray⟩, vb, vc⟩ : Itm)]).length = acc.length + 1) := hide (by simp)
                  clear HIT2 BAD2 HM
                  go_wp2_with (at_builtin; refine wpList_append_own _ rfl _ _ 22 rfl w.heap.size 34 i0 (.agg #[.string ⟨#[]⟩, .int .i64 0, .int .i64 0]) 3 32 Tryz.underlying22 hi0 hz0 hz1 hz2 rfl (by decide) _ acc.length (flatItm acc) rfl (R6H.out.alloc (.cells #[strV a, .int .i64 vb, .int .i64 vc] 34)) ⟨w6.heap.size, 0, none⟩ 1 1 [strV a, .int .i64 vb, .int .i64 vc] rfl rfl (World.news_of_block (cs := #[strV a, .int .i64 vb, .int .i64 vc]) (t := 34) (fr := (0, 0)) (heap_alloc_new w6 _)) f4 f1 f2 f3 ?_; intro v' w7 hown7 hgrow _)
                  have O7 : Hid (Own w w7 [(w.heap.size, 26, #[.int .i64 0, .int .i64 0])] ∧ w7.ownsRow w.heap.size 34 3 v' (acc.length + 1) (flatItm acc ++ [strV a, .int .i64 vb, .int .i64 vc])) :=
                    hide ⟨((X6H.out.tail.alloc #[strV a, .int .i64 vb, .int .i64 vc] 34).tail).grown (R6H.out.alloc (.cells #[strV a, .int .i64 vb, .int .i64 vc] 34)) hgrow (fun x hx => by simp only [List.mem_singleton] at hx; rw [hx]; show 34 ≠ 26; decide), hown7⟩
                  clear hown7 hgrow X6H R6H hr c0
                  go_wp2
                  go_roundw
                  case rel => exact ⟨acc ++ [⟨⟨a.toArray⟩, vb, vc⟩], k + 1, k + 1, by omega, by omega, by rw [el.out]; omega, by go_num, by go_num, HP2, HM2, hide ⟨O7.out.1, by rw [flatItm_append, el.out]; exact O7.out.2⟩⟩
                  case measure => simp [intOf]; omega
            · have q3 : ((ws.length : Int) == 3) = false := by simp; omega
              have q4 : ((ws.length : Int) != 3) = true := by simp [bne, q3]
              have E := hide (BAD.out (by
                match ws, h3 with
                | [], _ => rfl
                | [_], _ => rfl
                | [_, _], _ => rfl
                | [_, _, _], h => exact absurd rfl h
                | _ :: _ :: _ :: _ :: _, _ => rfl))
              clear HIT BAD WL
              go_wp2_with fail
              refine (RW.out _).mono ?_
              rintro e w3 ⟨hb, A, cp, rfl, hsl, hcp⟩
              have X3 := (HR.out.1.to hb).alloc #[.int .i64 ((acc.length : Int) + 1), .int .i64 1] 26
              have hr := X3.r2
              have X3H := hide X3
              clear X3 hb hsl hcp HR
              go_wp2
              go_region
              all_goals
                go_wp2
                exact bodyPost_ret (v := .tuple #[.slice none 0 0, .agg #[.int .i64 ((acc.length : Int) + 1), .int .i64 1], .int .i64 7]) (by simp [results, Tryz.results7, hr, go_sem]) rfl (PrsPost.bad (by have HX1 := X3H.out.1; have hz := HX1.size; go_grown) E.out)
          · have q : ((s[k].toNat : Int) == 10) = false := by
              simp only [beq_eq_false_iff_ne, ne_eq]
              intro e
              exact hc (UInt8.toNat_inj.1 (by rw [show (10 : UInt8).toNat = 10 from rfl]; omega))
            have HP2 := hide (Or.inl (b := k + 1 = s.size + 1 ∧ prs (pts 10 s.data.toList) 0 [] = (doneL acc, 0, doneE acc)) (And.intro (show k + 1 ≤ s.size by omega) (GO.out _ _ _ PR.out hlt hc)))
            have q' : ((s[k].toNat : Int) != 10) = true := by simp [bne, q]
            have q3 : ¬ (s[k].toNat : Int) = 10 := by simpa using q
            clear hc HP PR GO DN LEN EF
            go_wp2
            go_roundw
            case rel => exact ⟨acc, fr, k + 1, by omega, by omega, by omega, by go_num, rfl, HP2, HM, HR⟩
            case measure => simp [intOf]; omega
        · by_cases hz : k = s.size
          · obtain rfl := hz
            have PR : Hid (PsRel s.data.toList acc fr s.size) := hide (by rcases HP.out with h | h; exact h.2; omega)
            by_cases hf : fr = s.size
            · obtain rfl := hf
              have HP2 : Hid ((s.size + 1 ≤ s.size ∧ PsRel s.data.toList acc s.size (s.size + 1)) ∨ (s.size + 1 = s.size + 1 ∧ prs (pts 10 s.data.toList) 0 [] = (doneL acc, 0, doneE acc))) := hide (.inr ⟨rfl, DN.out _ _ PR.out rfl⟩)
              clear HP PR GO DN LEN EF
              go_wp2
              go_roundw
              case rel => exact ⟨acc, s.size, s.size + 1, by omega, by omega, by omega, by go_num, rfl, HP2, HM, HR⟩
              case measure => simp [intOf] <;> omega
            · have E : Hid (prsF s.data.toList = ([], (acc.length : Int) + 1, 7)) := hide (EF.out.trans ((show PsRel s.data.toList acc fr s.data.toList.length from (show s.size = s.data.toList.length by simp) ▸ PR.out).open (by simp; omega)))
              have RW := hide (fun W => rwords_any (s.extract fr s.size) W (by simp; omega))
              have i4 := IntWalk.i64_in ((acc.length : Int) + 1) (by omega)
              have q6 : ((fr : Int) == (s.size : Int)) = false := by simp; omega
              obtain ⟨A7, c7, e7, hs7⟩ := ItmSl.of_row HR.out.2 (fun i h => HM.out _ (List.getElem_mem h))
              have e7 : _ = Value.slice A7 acc.length c7 := e7
              subst e7
              generalize pts 32 (s.extract fr s.size).data.toList = ws at *
              have ways : ((ws.length : Int) == 3) = false ∧ ((ws.length : Int) != 3) = true ∨ ((ws.length : Int) == 3) = true ∧ ((ws.length : Int) != 3) = false := by
                by_cases h : (ws.length : Int) = 3
                · exact .inr (by simp [h])
                · exact .inl (by simp [h])
              clear HP PR GO DN LEN EF hs7
              go_wp2_with fail
              refine (RW.out _).mono ?_
              rintro e w3 ⟨hb, A, cp, rfl, hsl, hcp⟩
              have X3 := (HR.out.1.to hb).alloc #[.int .i64 ((acc.length : Int) + 1), .int .i64 1] 26
              have hr := X3.r2
              have X3H := hide X3
              clear X3 hb hsl hcp HR RW
              rcases ways with ⟨q3, q4⟩ | ⟨q3, q4⟩
              all_goals
                go_wp2
                go_region
                all_goals
                  go_wp2
                  exact bodyPost_ret (v := .tuple #[.slice none 0 0, .agg #[.int .i64 ((acc.length : Int) + 1), .int .i64 1], .int .i64 7]) (by simp [results, Tryz.results7, hr, go_sem]) rfl (PrsPost.bad (by have HX1 := X3H.out.1; have hz := HX1.size; go_grown) E.out)
          · obtain rfl : k = s.size + 1 := by omega
            have EE : Hid (prsF s.data.toList = (doneL acc, 0, doneE acc)) := hide (EF.out.trans (by rcases HP.out with h | h; omega; exact h.2))
            obtain ⟨A7, c7, e7, hs7, hc7⟩ := ItmSl.of_rowC HR.out.2 (fun i h => HM.out _ (List.getElem_mem h))
            have e7 : _ = Value.slice A7 acc.length c7 := e7
            subst e7
            have SL := hide (And.intro hs7 hc7)
            have V := hide (fun W h => rvalid48_any acc A7 c7 W h)
            unfold RetW at V
            clear HP GO DN LEN EF hs7 hc7
            rcases Bool.eq_false_or_eq_true (vI acc) with hv | hv
            · have E : Hid (prsF s.data.toList = (acc, 0, 0)) := hide (by rw [EE.out]; unfold doneL doneE; rw [hv]; rfl)
              rw [hv] at V
              clear EE
              go_wp2_with fail
              refine (V.out _ SL.out.1).mono ?_
              rintro e w3 ⟨rfl, hb⟩
              have X3 := HR.out.1.to hb
              have hr := X3.r1
              have FIN := hide (And.intro X3 (row_below HR.out.2 hb))
              clear hb X3 HR
              go_wp2
              exact bodyPost_ret (v := .tuple #[.slice A7 acc.length c7, .agg #[.int .i64 0, .int .i64 0], .int .i64 0]) (by simp [results, Tryz.results7, hr, go_sem]) rfl
                (PrsPost.yes FIN.out.1 FIN.out.2 HM.out E.out)
            · have E : Hid (prsF s.data.toList = ([], 0, 1)) := hide (by rw [EE.out]; unfold doneL doneE; rw [hv]; rfl)
              rw [hv] at V
              clear EE
              go_wp2_with fail
              refine (V.out _ SL.out.1).mono ?_
              rintro e w3 ⟨rfl, hb⟩
              have X3 := HR.out.1.to hb
              have hr := X3.r1
              have FIN := hide X3
              clear hb X3 HR
              go_wp2
              exact bodyPost_ret (v := .tuple #[.slice none 0 0, .agg #[.int .i64 0, .int .i64 0], .int .i64 1]) (by simp [results, Tryz.results7, hr, go_sem]) rfl (PrsPost.err (by have HX1 := FIN.out.1; have hz := HX1.size; go_grown) E.out)
end Go.Proofs.YtlnlaopokelggaaGreatDoor

namespace Go.Proofs.YtlnlaopokelggaaGreatDoor
open Go Go.RowKit

def blR : Go.Shelf.Ren := ⟨fun | 166 => 26 | 240 => 50 | 276 => 80 | 169 => 28 | n => n, fun | 3 => 3 | 4 => 4 | 5 => 5 | 9 => 9 | 20 => 20 | 37 => 67 | 70 => 66 | 72 => 69 | 75 => 71 | 164 => 129 | 80 => 75 | 127 => 102 | n => n, fun | n => n⟩
theorem blL166 : Go.Proofs.Lays.n166 Tryz.prog blR := {
  mixed := by kernel_rfl
  f166 := Tryz.func26.trans (congrArg some (by kernel_rfl))
  f240 := Tryz.func50.trans (congrArg some (by kernel_rfl))
  f276 := Tryz.func80.trans (congrArg some (by kernel_rfl))
  t0 := Tryz.underlying0
  a0 := Tryz.isAgg0
  z0 := Tryz.sizeOf0
  v0 := Tryz.zeroValue0
  t3 := Tryz.underlying3
  a3 := Tryz.isAgg3
  z3 := Tryz.sizeOf3
  v3 := Tryz.zeroValue3
  t4 := Tryz.underlying4
  a4 := Tryz.isAgg4
  z4 := Tryz.sizeOf4
  v4 := Tryz.zeroValue4
  t9 := Tryz.underlying9
  a9 := Tryz.isAgg9
  z9 := Tryz.sizeOf9
  v9 := Tryz.zeroValue9
  t20 := Tryz.underlying20
  a20 := Tryz.isAgg20
  z20 := Tryz.sizeOf20
  v20 := Tryz.zeroValue20
  t37 := Tryz.underlying67
  a37 := Tryz.isAgg67
  z37 := Tryz.sizeOf67
  v37 := Tryz.zeroValue67
  t70 := Tryz.underlying66
  a70 := Tryz.isAgg66
  z70 := Tryz.sizeOf66
  v70 := Tryz.zeroValue66
  t72 := Tryz.underlying69
  a72 := Tryz.isAgg69
  z72 := Tryz.sizeOf69
  v72 := Tryz.zeroValue69
  t75 := Tryz.underlying71
  a75 := Tryz.isAgg71
  z75 := Tryz.sizeOf71
  v75 := Tryz.zeroValue71
  t164 := Tryz.underlying129
  a164 := Tryz.isAgg129
  z164 := Tryz.sizeOf129
  v164 := Tryz.zeroValue129 }
theorem blL169 : Go.Proofs.Lays.n169 Tryz.prog blR := {
  mixed := by kernel_rfl
  f169 := Tryz.func28.trans (congrArg some (by kernel_rfl))
  t0 := Tryz.underlying0
  a0 := Tryz.isAgg0
  z0 := Tryz.sizeOf0
  v0 := Tryz.zeroValue0
  t3 := Tryz.underlying3
  a3 := Tryz.isAgg3
  z3 := Tryz.sizeOf3
  v3 := Tryz.zeroValue3
  t9 := Tryz.underlying9
  a9 := Tryz.isAgg9
  z9 := Tryz.sizeOf9
  v9 := Tryz.zeroValue9
  t37 := Tryz.underlying67
  a37 := Tryz.isAgg67
  z37 := Tryz.sizeOf67
  v37 := Tryz.zeroValue67
  t70 := Tryz.underlying66
  a70 := Tryz.isAgg66
  z70 := Tryz.sizeOf66
  v70 := Tryz.zeroValue66
  t72 := Tryz.underlying69
  a72 := Tryz.isAgg69
  z72 := Tryz.sizeOf69
  v72 := Tryz.zeroValue69
  t127 := Tryz.underlying102
  a127 := Tryz.isAgg102
  z127 := Tryz.sizeOf102
  v127 := Tryz.zeroValue102 }
theorem blX : Builder.Extra Tryz.prog blR := {
  sizeBuilder := by kernel_rfl
  liesBuilder := by kernel_rfl
  t5 := Tryz.underlying5
  a5 := Tryz.isAgg5
  z5 := Tryz.sizeOf5
  v5 := Tryz.zeroValue5
  infoByte := by kernel_rfl
  cellsByte := by kernel_rfl
  sizeByte := by kernel_rfl
  neB5 := by decide }
end Go.Proofs.YtlnlaopokelggaaGreatDoor

namespace Go.Proofs.YtlnlaopokelggaaGreatDoor
open Go Go.RowKit

/-- the builder in block b holds acc; what was there in w0 is as it was -/
def BldW (w0 W : World) (b : Nat) (acc : List UInt8) : Prop :=
  Lib.IsBuilderF 69 5 w0.heap.size b (Lib.byteCells acc) W ∧ Below w0.heap.size w0 W
theorem BldW.start {w0 W : World} (h : Below w0.heap.size w0 W) : BldW w0 (W.alloc (.cells #[.pointer none, .slice none 0 0] 69)) W.heap.size [] := by
  refine ⟨?_, h.alloc h.size _⟩
  have := Lib.IsBuilderF.of (Lib.fresh_isBuilder 69 5 W)
  have mono : ∀ p, Lib.BuilderAtF 69 5 W.heap.size W.heap.size p [] (W.alloc (.cells #[.pointer none, .slice none 0 0] 69)) → Lib.BuilderAtF 69 5 w0.heap.size W.heap.size p [] (W.alloc (.cells #[.pointer none, .slice none 0 0] 69)) := by
    rintro p ⟨_, v, hb, ⟨ho1, ho2⟩, hn⟩
    refine ⟨h.size, v, hb, ⟨ho1, ?_⟩, hn⟩
    rcases ho2 with h' | ⟨g, cap, cur, fz, e, hg, r⟩
    · exact .inl h'
    · exact .inr ⟨g, cap, cur, fz, e, Nat.le_trans h.size hg, r⟩
  rcases this with h' | h'
  · exact .inl (mono _ h')
  · exact .inr (mono _ h')
theorem BldW.to {w0 W W' : World} {b : Nat} {acc : List UInt8} (h : BldW w0 W b acc) (hb : Below W.heap.size W W') : BldW w0 W' b acc := by
  refine ⟨?_, below_via h.2 h.2.size hb⟩
  have mono : ∀ p, Lib.BuilderAtF 69 5 w0.heap.size b p (Lib.byteCells acc) W → Lib.BuilderAtF 69 5 w0.heap.size b p (Lib.byteCells acc) W' := by
    rintro p ⟨hB, v, hbk, hown, hn⟩
    refine ⟨hB, v, (hb.block b (Array.getElem?_eq_some_iff.1 hbk).1).trans hbk, hown.kept (row := none) ⟨hb.os, hb.tape, hb.output, hb.size, fun i hi _ => hb.block i hi⟩ (by cases v.ownBlock <;> simp), hn⟩
  rcases h.1 with h' | h'
  · exact .inl (mono _ h')
  · exact .inr (mono _ h')
theorem BldW.alloc {w0 W : World} {b : Nat} {acc : List UInt8} (h : BldW w0 W b acc) (o : Obj) : BldW w0 (W.alloc o) b acc := h.to ((Below.refl _ _).alloc (Nat.le_refl _) o)
theorem BldW.drew {w0 W : World} {b : Nat} {acc : List UInt8} (h : BldW w0 W b acc) : BldW w0 W.drew b acc := h.to ((Below.refl W.heap.size W).drew)
theorem BldW.lt {w0 W : World} {b : Nat} {acc : List UInt8} (h : BldW w0 W b acc) : w0.heap.size ≤ b ∧ b < W.heap.size := by
  rcases h.1 with h' | h' <;> exact ⟨h'.1, h'.lt⟩
/-- what a writer leaves -/
def BlPost (w0 : World) (b : Nat) (acc : List UInt8) (v : Value) (W : World) (e : Ending) (W' : World) : Prop :=
  e = .returned v ∧ BldW w0 W' b acc ∧ Below w0.heap.size W W' ∧ Lib.OthersKept 5 (some b) W W'
theorem bws_any (w0 W : World) (b : Nat) (acc s : List UInt8) (h : BldW w0 W b acc) (hl : acc.length + s.length ≤ 140737488355328) :
    Calls Tryz.prog 26 #[.pointer (some ⟨b, 0, none⟩), strV s] W (BlPost w0 b (acc ++ s) (.tuple #[.int .i64 s.length, .nilIface]) W) := by
  have hs : (⟨s.toArray⟩ : ByteArray).size = s.length := by simp [ByteArray.size]
  refine (Any.Builder_WriteString_k blL166 blX w0.heap.size b (Lib.byteCells acc) ⟨s.toArray⟩ W h.1 (by rw [Lib.byteCells_length, hs]; exact hl) h.2.size).mono fun e W' ⟨he, hA, hb, hk⟩ => ?_
  rw [hs] at he
  refine ⟨he, ⟨.inr ?_, h.2.trans hb⟩, hb, hk⟩
  rw [Lib.byteCells_append, ← Lib.strCells_toArray s]
  exact hA
theorem bst_any (w0 W : World) (b : Nat) (acc : List UInt8) (h : BldW w0 W b acc) :
    Calls Tryz.prog 28 #[.pointer (some ⟨b, 0, none⟩)] W (BlPost w0 b acc (strV acc) W) := by
  refine (Any.Builder_String_any_k blL169 blX w0.heap.size b acc W h.1 h.2.size).mono fun e W' ⟨he, hA, hb, hk⟩ => ?_
  exact ⟨he, ⟨hA, h.2.trans hb⟩, hb, hk⟩
/-- own blocks beside the builder -/
theorem Own.others {w W W' : World} {b : Nat} {L : List (Nat × TypeId × Array Value)} (h : Own w W L) (hb : Below w.heap.size W W') (hk : Lib.OthersKept 5 (some b) W W') (hn : ∀ x ∈ L, x.1 ≠ b ∧ x.2.1 ≠ 5) : Own w W' L :=
  ⟨h.1.trans hb, fun x hx => hk x.1 _ (h.2 x hx) (fun e => (hn x hx).1 (by injection e)) (fun c fz e => (hn x hx).2 (by injection e))⟩
end Go.Proofs.YtlnlaopokelggaaGreatDoor

namespace Go.Proofs.YtlnlaopokelggaaGreatDoor
open Go Go.RowKit

def TxPost (l : List Itm) (w : World) (e : Ending) (w' : World) : Prop := e = .returned (.tuple #[strV (txR l), .int .i64 (txE l)]) ∧ Below w.heap.size w w'
set_option maxRecDepth 100000 in
set_option maxHeartbeats 4000000 in
theorem cotext_any (l : List Itm) (A : Option Addr) (cap : Nat) (w : World) (hl : ItmSl w A l) (ht : TxtW w) :
    Calls Tryz.prog 9 #[.slice A l.length cap] w (TxPost l w) := by
  have hlen : l.length ≤ 9223372036854775807 := by have := hl.1.1; unfold maxLen at this; omega
  have H := hide hl
  have HT := hide ht
  have V := hide (fun W h => covalid_any l A cap W h)
  unfold RetW at V
  clear hl ht
  rcases Bool.eq_false_or_eq_true (vI l) with hv | hv
  case inr =>
    have E := hide (tx_bad hv)
    rw [hv] at V
    clear hv
    go_enter Tryz.func9, Tryz.ntmps9
    go_wp2_with fail
    refine (V.out _ H.out).mono ?_
    rintro e w1 ⟨rfl, hb⟩
    go_wp2
    go_ret2
    exact ⟨by rw [E.out.1, E.out.2]; rfl, hb⟩
  have E := hide (tx_good hv)
  have RG := hide (vI_iff.1 hv).2
  have L16 : l.length ≤ 1000 := (vI_iff.1 hv).1
  rw [hv] at V
  clear hv
  go_enter Tryz.func9, Tryz.ntmps9
  go_wp2_with fail
  refine (V.out _ H.out).mono ?_
  rintro e w1 ⟨rfl, hb⟩
  have B0 := hide (BldW.start hb)
  go_wp2
  go_loopw [12] (fun v12 wr => ∃ k : Nat, k ≤ l.length ∧ v12 = .int .i64 k ∧ Hid (BldW w wr w1.heap.size (txL (l.take k)))) (fun v12 _ => l.length - (intOf v12).toNat)
  case atStart => exact ⟨0, Nat.zero_le _, rfl, B0⟩
  case round =>
    obtain ⟨k, hk, rfl, HB⟩ := hrel
    by_cases hlt : k < l.length
    · obtain ⟨wo, rfl⟩ : ∃ wo : World, wo = wr := ⟨_, rfl⟩
      have HS := hide (H.out.below HB.out.2)
      obtain ⟨b, off, rfl, hbl, hat⟩ := HS.out.2 (by omega)
      obtain ⟨c0, c1, c2⟩ := hat k hlt
      have rc := RG.out l[k] (List.getElem_mem hlt)
      have la : (txL (l.take k)).length ≤ 65 * k := by
        have := txL_len (l := l.take k) (fun c h => RG.out c (List.mem_of_mem_take h))
        rw [List.length_take] at this
        omega
      have FIN : Hid (txL (l.take (k + 1)) = txL (l.take k) ++ (l[k].nm.data.toList ++ [32] ++ Lib.itoa l[k].am ++ [32] ++ Lib.itoa l[k].pr ++ [10])) := hide (by rw [txL_take hlt]; unfold txC; simp)
      obtain ⟨⟨b1, b2⟩, b3, b4⟩ := itB_bd rc
      have nsz := name_len (itB_nm rc)
      have N1 := hide (fun W hW => conumber_any l[k].am W (by omega) (by omega) hW)
      have N2 := hide (fun W hW => conumber_any l[k].pr W (by omega) (by omega) hW)
      have il1 := Lib.itoa_length_le l[k].am (by omega) (by omega)
      have il2 := Lib.itoa_length_le l[k].pr (by omega) (by omega)
      obtain ⟨nl, hn⟩ : ∃ nl : List UInt8, l[k].nm = ⟨nl.toArray⟩ := ⟨l[k].nm.data.toList, by simp⟩
      rw [hn] at c0 nsz FIN
      clear hat rc b1 b2 b3 b4 hn
      generalize l[k].am = am at *
      generalize l[k].pr = pr at *
      generalize Lib.itoa am = sa at *
      generalize Lib.itoa pr = sp at *
      have en : (⟨nl.toArray⟩ : ByteArray).data.toList = nl := by simp
      rw [en] at nsz FIN
      generalize hacc : txL (l.take k) = acc at *
      clear hacc en
      obtain ⟨L1, h1⟩ : ∃ L1, nl ++ [32] = L1 := ⟨_, rfl⟩
      obtain ⟨L2, h2⟩ : ∃ L2, L1 ++ sa = L2 := ⟨_, rfl⟩
      obtain ⟨L3, h3⟩ : ∃ L3, L2 ++ [32] = L3 := ⟨_, rfl⟩
      obtain ⟨L4, h4⟩ : ∃ L4, L3 ++ sp = L4 := ⟨_, rfl⟩
      obtain ⟨L5, h5⟩ : ∃ L5, L4 ++ [10] = L5 := ⟨_, rfl⟩
      have d1 : (⟨nl.toArray⟩ : ByteArray) ++ ⟨#[32]⟩ = ⟨L1.toArray⟩ := (ba_append nl [32]).trans (by rw [h1])
      have d2 : (⟨L1.toArray⟩ : ByteArray) ++ ⟨sa.toArray⟩ = ⟨L2.toArray⟩ := (ba_append L1 sa).trans (by rw [h2])
      have d3 : (⟨L2.toArray⟩ : ByteArray) ++ ⟨#[32]⟩ = ⟨L3.toArray⟩ := (ba_append L2 [32]).trans (by rw [h3])
      have d4 : (⟨L3.toArray⟩ : ByteArray) ++ ⟨sp.toArray⟩ = ⟨L4.toArray⟩ := (ba_append L3 sp).trans (by rw [h4])
      have d5 : (⟨L4.toArray⟩ : ByteArray) ++ ⟨#[10]⟩ = ⟨L5.toArray⟩ := (ba_append L4 [10]).trans (by rw [h5])
      rw [h1, h2, h3, h4, h5] at FIN
      have e1 : L1.length = nl.length + 1 := by rw [← h1]; simp
      have e2 : L2.length = L1.length + sa.length := by rw [← h2]; simp
      have e3 : L3.length = L2.length + 1 := by rw [← h3]; simp
      have e4 : L4.length = L3.length + sp.length := by rw [← h4]; simp
      have e5 : L5.length = L4.length + 1 := by rw [← h5]; simp
      have m1 : ¬ 9223372036854775807 < nl.length + 1 := by omega
      have m2 : ¬ 9223372036854775807 < L1.length + sa.length := by omega
      have m3 : ¬ 9223372036854775807 < L2.length + 1 := by omega
      have m4 : ¬ 9223372036854775807 < L3.length + sp.length := by omega
      have m5 : ¬ 9223372036854775807 < L4.length + 1 := by omega
      have X := (Own.start wo).alloc #[.string ⟨nl.toArray⟩, .int .i64 am, .int .i64 pr] 34
      have HB1 := hide (HB.out.alloc (.cells #[.string ⟨nl.toArray⟩, .int .i64 am, .int .i64 pr] 34))
      have T6 := hide ((HT.out.below HB.out.2).below X.1)
      have XH := hide X
      have LN : Hid (acc.length + L5.length ≤ 140737488355328) := hide (by omega)
      have hr := X.r1
      clear X HB il1 il2 h1 h2 h3 h4 h5 e1 e2 e3 e4 e5
      generalize hW : wo.alloc (.cells #[.string ⟨nl.toArray⟩, .int .i64 am, .int .i64 pr] 34) = W6 at *
      have NE : Nonempty (OwnW W6 []) := ⟨⟨_, Own.start W6⟩⟩
      have C1 := fun y : OwnW W6 [] => (XH.out.to y.own.1).r1
      have K1 := fun y : OwnW W6 [] => N1.out y.W (T6.out.below y.own.1)
      have K2 := fun y : OwnW W6 [] => N2.out y.W (T6.out.below y.own.1)
      subst hW
      go_wp2_with fail
      refine wp_region_own_tail (w := wo.alloc (.cells #[.string ⟨nl.toArray⟩, .int .i64 am, .int .i64 pr] 34)) (L := []) 13 (by kernel_rfl) (by kernel_rfl) (Own.start _) ?_
      simp only [List.take_succ_cons, List.take_zero, List.drop_succ_cons, List.drop_zero]
      repeat (go_big_quiet_step ((rename_i y; first | with_reducible exact own_call (K1 _) | with_reducible exact own_call (K2 _))))
      refine wpQuiet_nil ?_
      rintro W ⟨⟨W, HO⟩, rfl⟩
      have WS := hide (bws_any w W w1.heap.size acc L5 (HB1.out.to HO.1) LN.out)
      clear C1 K1 K2 NE HO hr c0 c1 c2 XH T6 HB1 d1 d2 d3 d4 d5 m1 m2 m3 m4 m5
      go_wp2_with fail
      refine WS.out.mono ?_
      rintro e w8 ⟨rfl, hB, hb8, hk8⟩
      have HB8 := hide hB
      clear hB hb8 hk8
      go_wp2
      go_roundw
      case rel => exact ⟨k + 1, by omega, by go_num, hide (by rw [FIN.out]; exact HB8.out)⟩
      case measure => simp [intOf]; omega
    · have e : k = l.length := by omega
      subst e
      rw [List.take_length] at HB
      have WS := hide (fun W h => bst_any w W w1.heap.size (txL l) h)
      go_wp2_with fail
      refine (WS.out _ HB.out).mono ?_
      rintro e w3 ⟨rfl, hB, _, _⟩
      go_wp2
      go_ret2
      exact ⟨by rw [E.out.1, E.out.2]; rfl, hB.2⟩
end Go.Proofs.YtlnlaopokelggaaGreatDoor

namespace Go.Proofs.YtlnlaopokelggaaGreatDoor
open Go Go.RowKit

set_option maxRecDepth 100000 in
set_option maxHeartbeats 4000000 in
theorem rtext48_any (l : List Itm) (A : Option Addr) (cap : Nat) (w : World) (hv : vI l = true) (hl : ItmSl w A l) :
    Calls Tryz.prog 11 #[.slice A l.length cap] w (RetV (strV (txL l)) w) := by
  have hlen : l.length ≤ 9223372036854775807 := by have := hl.1.1; unfold maxLen at this; omega
  have H := hide hl
  clear hl
  have RG := hide (vI_iff.1 hv).2
  have L16 : l.length ≤ 1000 := (vI_iff.1 hv).1
  clear hv
  go_enter Tryz.func11, Tryz.ntmps11
  go_wp2
  go_loopw [3, 4] (fun v3 v4 wr => ∃ k : Nat, k ≤ l.length ∧ v4 = .int .i64 k ∧ v3 = strV (txL (l.take k)) ∧ Hid (Below w.heap.size w wr)) (fun _ v4 _ => l.length - (intOf v4).toNat)
  case atStart => exact ⟨0, Nat.zero_le _, rfl, rfl, hide (Below.refl _ _)⟩
  case round =>
    obtain ⟨k, hk, rfl, rfl, HB⟩ := hrel
    by_cases hlt : k < l.length
    · have g1 : decide (k < l.length) = true := decide_eq_true hlt
      have g2 : (0 : Int) ≤ (k : Int) := by omega
      have g3 : (k : Int) < (l.length : Int) := by omega
      have HS := hide (H.out.below HB.out)
      obtain ⟨b, off, rfl, hbl, hat⟩ := HS.out.2 (by omega)
      obtain ⟨c0, c1, c2⟩ := hat k hlt
      have rc := RG.out l[k] (List.getElem_mem hlt)
      have la : (txL (l.take k)).length ≤ 65 * k := by
        have := txL_len (l := l.take k) (fun c h => RG.out c (List.mem_of_mem_take h))
        rw [List.length_take] at this
        omega
      have FIN : Hid (txL (l.take (k + 1)) = txL (l.take k) ++ l[k].nm.data.toList ++ [32] ++ Lib.itoa l[k].am ++ [32] ++ Lib.itoa l[k].pr ++ [10]) := hide (by rw [txL_take hlt]; unfold txC; simp)
      obtain ⟨⟨b1, b2⟩, b3, b4⟩ := itB_bd rc
      have nsz := name_len (itB_nm rc)
      have N1 := hide (fun W => rdec_any l[k].am W (by omega) (by omega))
      have N2 := hide (fun W => rdec_any l[k].pr W (by omega) (by omega))
      have il1 := Lib.itoa_length_le l[k].am (by omega) (by omega)
      have il2 := Lib.itoa_length_le l[k].pr (by omega) (by omega)
      obtain ⟨nl, hn⟩ : ∃ nl : List UInt8, l[k].nm = ⟨nl.toArray⟩ := ⟨l[k].nm.data.toList, by simp⟩
      rw [hn] at c0 nsz FIN
      clear hat rc b1 b2 b3 b4 hn
      generalize l[k].am = am at *
      generalize l[k].pr = pr at *
      generalize Lib.itoa am = sa at *
      generalize Lib.itoa pr = sp at *
      have en : (⟨nl.toArray⟩ : ByteArray).data.toList = nl := by simp
      rw [en] at nsz FIN
      generalize hacc : txL (l.take k) = acc at *
      clear hacc en
      obtain ⟨L0, h0⟩ : ∃ L0, acc ++ nl = L0 := ⟨_, rfl⟩
      obtain ⟨L1, h1⟩ : ∃ L1, L0 ++ [32] = L1 := ⟨_, rfl⟩
      obtain ⟨L2, h2⟩ : ∃ L2, L1 ++ sa = L2 := ⟨_, rfl⟩
      obtain ⟨L3, h3⟩ : ∃ L3, L2 ++ [32] = L3 := ⟨_, rfl⟩
      obtain ⟨L4, h4⟩ : ∃ L4, L3 ++ sp = L4 := ⟨_, rfl⟩
      obtain ⟨L5, h5⟩ : ∃ L5, L4 ++ [10] = L5 := ⟨_, rfl⟩
      have d0 : (⟨acc.toArray⟩ : ByteArray) ++ ⟨nl.toArray⟩ = ⟨L0.toArray⟩ := (ba_append acc nl).trans (by rw [h0])
      have d1 : (⟨L0.toArray⟩ : ByteArray) ++ ⟨#[32]⟩ = ⟨L1.toArray⟩ := (ba_append L0 [32]).trans (by rw [h1])
      have d2 : (⟨L1.toArray⟩ : ByteArray) ++ ⟨sa.toArray⟩ = ⟨L2.toArray⟩ := (ba_append L1 sa).trans (by rw [h2])
      have d3 : (⟨L2.toArray⟩ : ByteArray) ++ ⟨#[32]⟩ = ⟨L3.toArray⟩ := (ba_append L2 [32]).trans (by rw [h3])
      have d4 : (⟨L3.toArray⟩ : ByteArray) ++ ⟨sp.toArray⟩ = ⟨L4.toArray⟩ := (ba_append L3 sp).trans (by rw [h4])
      have d5 : (⟨L4.toArray⟩ : ByteArray) ++ ⟨#[10]⟩ = ⟨L5.toArray⟩ := (ba_append L4 [10]).trans (by rw [h5])
      rw [h0, h1, h2, h3, h4, h5] at FIN
      have e0 : L0.length = acc.length + nl.length := by rw [← h0]; simp
      have e1 : L1.length = L0.length + 1 := by rw [← h1]; simp
      have e2 : L2.length = L1.length + sa.length := by rw [← h2]; simp
      have e3 : L3.length = L2.length + 1 := by rw [← h3]; simp
      have e4 : L4.length = L3.length + sp.length := by rw [← h4]; simp
      have e5 : L5.length = L4.length + 1 := by rw [← h5]; simp
      have m0 : ¬ 9223372036854775807 < acc.length + nl.length := by omega
      have m1 : ¬ 9223372036854775807 < L0.length + 1 := by omega
      have m2 : ¬ 9223372036854775807 < L1.length + sa.length := by omega
      have m3 : ¬ 9223372036854775807 < L2.length + 1 := by omega
      have m4 : ¬ 9223372036854775807 < L3.length + sp.length := by omega
      have m5 : ¬ 9223372036854775807 < L4.length + 1 := by omega
      clear il1 il2 h0 h1 h2 h3 h4 h5 e0 e1 e2 e3 e4 e5
      have NE : Nonempty (OwnW wr []) := ⟨⟨_, Own.start wr⟩⟩
      have C0 := fun y : OwnW wr [] => (y.own.1.cell (p := ⟨b, off + k * 3, none⟩) hbl).trans c0
      have C1 := fun y : OwnW wr [] => (y.own.1.cell (p := ⟨b, off + k * 3 + 1, none⟩) hbl).trans c1
      have C2 := fun y : OwnW wr [] => (y.own.1.cell (p := ⟨b, off + k * 3 + 2, none⟩) hbl).trans c2
      have K1 := fun y : OwnW wr [] => N1.out y.W
      have K2 := fun y : OwnW wr [] => N2.out y.W
      go_wp2_with fail
      refine wp_region_own (w := wr) (L := []) (by kernel_rfl) (by kernel_rfl) (Own.start wr) ?_
      repeat (go_big_quiet_step ((rename_i y; first | with_reducible exact own_call (K1 _) | with_reducible exact own_call (K2 _))))
      refine wpQuiet_nil ?_
      rintro W ⟨⟨W, HO⟩, rfl⟩
      have HB2 := hide (below_via HB.out HB.out.size HO.1)
      clear C0 C1 C2 K1 K2 NE HO c0 c1 c2 d0 d1 d2 d3 d4 d5 m0 m1 m2 m3 m4 m5
      go_wp2
      go_roundw
      case rel => exact ⟨k + 1, by omega, by go_num, by rw [FIN.out], HB2⟩
      case measure => simp [intOf]; omega
    · have e : k = l.length := by omega
      have g1 : decide (k < l.length) = false := decide_eq_false hlt
      have ET : Hid (txL (l.take k) = txL l) := hide (by rw [e, List.take_length])
      generalize txL (l.take k) = acc at *
      go_wp2
      go_ret
      exact ⟨by rw [← ET.out]; rfl, HB.out⟩
end Go.Proofs.YtlnlaopokelggaaGreatDoor

namespace Go.Proofs.YtlnlaopokelggaaGreatDoor
open Go Go.RowKit

def SomeB (w : World) (e : Ending) (w' : World) : Prop := ∃ b : Bool, e = .returned (.bool b) ∧ Below w.heap.size w w'
set_option maxHeartbeats 1000000 in
theorem many1_any (x : Itm) (w : World) (h : x.nm.size ≤ maxLen) : Calls Tryz.prog 16 #[x.val] w (RetW (.bool (decide (100 < x.nm.size))) w) := by
  have X := (Own.start w).alloc #[.string x.nm, .int .i64 x.am, .int .i64 x.pr] 34
  have hr := X.r1
  have h0 : x.nm.size ≤ 9223372036854775807 := by unfold maxLen at h; omega
  have XB := hide X.1
  clear X
  go_enter Tryz.func16, Tryz.ntmps16
  go_wp2
  go_ret
  exact ⟨ret_bool (decide_eq_decide.2 (by omega)), XB.out⟩
set_option maxHeartbeats 1000000 in
theorem many_any (l : List Itm) (A : Option Addr) (cap : Nat) (w : World) (hl : ItmSl w A l) : Calls Tryz.prog 5 #[.slice A l.length cap] w (SomeB w) := by
  have C := hide (fun W h => contM_any 16 (fun x => decide (100 < x.nm.size)) many1_any (fun d w => enters_of Tryz.func16 (by kernel_rfl) rfl _ w) l A cap W h)
  unfold RetW at C
  have HL := hide hl
  have hlen : l.length ≤ 9223372036854775807 := by have := hl.1.1; unfold maxLen at this; omega
  clear hl
  generalize (l.any fun x => decide (100 < x.nm.size)) = b at *
  have ways : (decide (30 < (l.length : Int)) = true ∧ decide ((l.length : Int) ≤ 1000) = true) ∨ (decide (30 < (l.length : Int)) = true ∧ decide ((l.length : Int) ≤ 1000) = false ∧ decide (2000 < (l.length : Int)) = true) ∨ (decide (30 < (l.length : Int)) = true ∧ decide ((l.length : Int) ≤ 1000) = false ∧ decide (2000 < (l.length : Int)) = false) ∨ (decide (30 < (l.length : Int)) = false ∧ decide (2000 < (l.length : Int)) = false) := by
    simp only [decide_eq_true_eq, decide_eq_false_iff_not]; omega
  rcases ways with ⟨q1, q2⟩ | ⟨q1, q2, q3⟩ | ⟨q1, q2, q3⟩ | ⟨q1, q2⟩
  iterate 2
    · go_enter Tryz.func5, Tryz.ntmps5
      go_wp2
      go_ret
      exact ⟨_, rfl, Below.refl _ _⟩
  all_goals
    go_enter Tryz.func5, Tryz.ntmps5
    go_wp2_with fail
    refine (C.out _ HL.out).mono ?_
    rintro e w1 ⟨rfl, hb⟩
    have HB := hide hb
    clear hb
    go_wp2
    go_ret
    exact ⟨_, rfl, HB.out⟩
end Go.Proofs.YtlnlaopokelggaaGreatDoor

namespace Go.Proofs.YtlnlaopokelggaaGreatDoor
open Go Go.RowKit

set_option maxRecDepth 100000 in
set_option maxHeartbeats 1000000 in
theorem equalM_any (l : List Itm) (A B : Option Addr) (cap cap' : Nat) (w : World) (hl : ItmSl w A l) (hm : ItmSl w B l) :
    Calls Tryz.prog 8 #[.slice A l.length cap, .slice B l.length cap'] w fun e w' => e = .returned (.bool true) ∧ Below w.heap.size w w' := by
  have hlen : l.length ≤ 9223372036854775807 := by have := hl.1.1; unfold maxLen at this; omega
  have H := hide hl
  have H' := hide hm
  clear hl hm
  go_enter Tryz.func8, Tryz.ntmps8
  go_wp2
  go_loopw [13] (fun v wr => ∃ k : Nat, k ≤ l.length ∧ v = .int .i64 k ∧ Below w.heap.size w wr) (fun v _ => l.length - (intOf v).toNat)
  case atStart => exact ⟨0, Nat.zero_le _, rfl, Below.refl _ _⟩
  case round =>
    obtain ⟨k, hk, rfl, hb⟩ := hrel
    by_cases hlt : k < l.length
    · obtain ⟨b, off, rfl, hbl, hat⟩ := (H.out.below hb).2 (by omega)
      obtain ⟨b', off', rfl, hbl', hat'⟩ := (H'.out.below hb).2 (by omega)
      obtain ⟨c0, c1, c2⟩ := hat k hlt
      obtain ⟨d0, d1, d2⟩ := hat' k hlt
      have g0 : (0 : Int) ≤ (k : Int) := by omega
      have g1 : (k : Int) < (l.length : Int) := by omega
      clear hat hat'
      generalize l[k] = c at *
      have HB := hide hb
      clear hb
      go_wp2
      go_quiet (fail)
      go_wp2
      go_roundw
      case rel => exact ⟨k + 1, by omega, by go_num, below_drewN HB.out _⟩
      case measure => simp [intOf]; omega
    · have HB := hide hb
      clear hb
      go_wp2
      go_ret
      exact ⟨rfl, HB.out⟩
end Go.Proofs.YtlnlaopokelggaaGreatDoor
