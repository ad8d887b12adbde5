/- The reference's Parse of a list of classes: what it returns; nothing that was there is turned. -/
import Derived.Test.YtaaadejamjbcbaaDoorRlin
import Derived.Test.YtaaadejamjbcbaaDoorClsRef
import Derived.Test.YtaaadejamjbcbaaDoorPars
namespace Go.Proofs.YtaaadejamjbcbaaDoor
open Go Go.RowKit

def RpPost (s : List UInt8) (w : World) (e : Ending) (w' : World) : Prop :=
  Below w.heap.size w w' ∧ ∃ (A : Option Addr) (c : Nat), e = .returned (.tuple #[.slice A (prsF s).1.length c, .int .i64 (prsF s).2.1, .int .i64 (prsF s).2.2]) ∧ ClsSl w' A (prsF s).1 ∧ (prsF s).1.length ≤ c
theorem RpPost.err {s : List UInt8} {w w' : World} {ln er : Int} (hb : Below w.heap.size w w') (h : prsF s = ([], ln, er)) : RpPost s w (.returned (.tuple #[.slice none 0 0, .int .i64 ln, .int .i64 er])) w' := by
  refine ⟨hb, none, 0, by rw [h]; rfl, by rw [h]; exact ClsSl.nil _ _, by rw [h]; exact Nat.le_refl _⟩
set_option maxRecDepth 100000 in
set_option maxHeartbeats 4000000 in
theorem rparse_any (s : ByteArray) (w : World) (hs : s.size ≤ 900000) : Calls Tryd.prog 24 #[.string s] w (RpPost s.data.toList w) := by
  have hsl : s.data.toList.length = s.size := by simp
  by_cases hbig : 262144 < s.size
  · have E : Hid (prsF s.data.toList = ([], 0, 4)) := hide (by unfold prsF; rw [if_pos (by rw [hsl]; exact hbig)])
    have q1 : decide ((262144 : Int) < (s.size : Int)) = true := decide_eq_true (by omega)
    clear hbig hsl
    go_enter Tryd.func24, Tryd.ntmps24
    go_wp2
    exact bodyPost_ret (v := .tuple #[.slice none 0 0, .int .i64 0, .int .i64 4]) (by simp [results, Tryd.results24, go_sem]) rfl (RpPost.err (Below.refl _ _) E.out)
  have q1 : decide ((262144 : Int) < (s.size : Int)) = false := decide_eq_false (by omega)
  have EF : Hid (prsF s.data.toList = prs (pts 10 s.data.toList) 0 []) := hide (by unfold prsF; rw [if_neg (by rw [hsl]; exact hbig)])
  have SP := hide (fun W => parts_any s 10 W (by omega))
  have PL := hide (fun p (hp : p ∈ pts 10 s.data.toList) => pts_len p hp)
  have PN := List.length_pos_iff.2 (pts_ne 10 s.data.toList)
  have PB := pts_length 10 s.data.toList
  rw [hsl] at PB PL
  clear hbig hsl
  generalize s.data.toList = l at *
  obtain ⟨i0, hi0, hz0, hz1, hz2⟩ := info_parts cls_info
  generalize hps : pts 10 l = ps at *
  clear hps
  go_enter Tryd.func24, Tryd.ntmps24
  go_wp2_with fail
  refine (SP.out _).mono ?_
  rintro e w1 ⟨hb1, A, cp, rfl, hws, hcp⟩
  have HW := hide hws
  have HB1 := hide hb1
  clear hws hb1 SP
  go_wp2
  go_loopw [6, 7] (fun v6 v7 wr => ∃ (k : Nat) (acc : List Cls), k < ps.length ∧ v7 = .int .i64 (k : Int) ∧ acc.length = k ∧ Hid (∀ c ∈ acc, c.nm.size ≤ maxLen) ∧ Hid (prs ps 0 [] = prs (ps.drop k) k acc) ∧ Hid (Below w1.heap.size w1 wr) ∧ Hid (wr.ownsRow w1.heap.size 54 5 v6 k (flatC acc))) (fun _ v7 _ => ps.length - (intOf v7).toNat)
  case atStart => exact ⟨0, [], PN, rfl, rfl, hide (fun c h => by simp at h), hide rfl, hide (Below.refl _ _), hide (World.ownsRow_nil _ _ _ _)⟩
  case round =>
    obtain ⟨k, acc, hk, rfl, hal, HN, HP, HB, R⟩ := hrel
    obtain ⟨b, off, rfl, hbl, hat⟩ := (HW.out.below HB.out).2 (by omega)
    have c0 := hat k hk
    have hdr : ps.drop k = ps[k] :: ps.drop (k + 1) := List.drop_eq_getElem_cons hk
    have lp := PL.out ps[k] (List.getElem_mem hk)
    have LI := hide (fun W => line_any ⟨ps[k].toArray⟩ W (by show ps[k].length ≤ _; omega))
    rw [show (⟨ps[k].toArray⟩ : ByteArray).data.toList = ps[k] by simp] at LI
    have i1 := IntWalk.i64_in ((ps.length : Int) - 1) (by omega)
    have i2 := IntWalk.i64_in ((k : Int) + 1) (by omega)
    by_cases hlast : k + 1 = ps.length
    · have hd2 : ps.drop (k + 1) = [] := by rw [hlast]; simp
      rw [hdr, hd2, prs] at HP
      have q2 : ((k : Int) == (ps.length : Int) - 1) = true := by simp; omega
      have q5 : ¬ ((k : Int) = (ps.length : Int)) := by omega
      replace hlast := hide hlast
      by_cases hp : ps[k] = []
      · rw [if_pos hp] at HP
        rw [hp] at c0
        clear hat hdr hd2 LI lp hp
        subst hal
        have RR := R.out
        obtain ⟨A', cp', rfl, hsl, hcp'⟩ := ClsSl.of_row RR (by unfold maxLen; omega) (fun i h => HN.out _ (List.getElem_mem h))
        have V := hide (fun W h => rvalid_any acc A' cp' W h)
        have SL := hide (And.intro hsl hcp')
        clear RR R hsl hcp'
        have BB := hide (below_via HB1.out HB1.out.size HB.out)
        rcases Bool.eq_false_or_eq_true (validB acc) with hv | hv
        · have E : Hid (prsF l = (acc, 0, 0)) := hide (by rw [EF.out, HP.out]; unfold doneL doneE; rw [hv]; rfl)
          rw [hv] at V
          go_wp2_with fail
          refine (V.out _ SL.out.1).mono ?_
          rintro e w3 ⟨rfl, hb⟩
          have FIN := hide (And.intro (below_via BB.out BB.out.size hb) (SL.out.1.below hb))
          clear hb
          go_wp2
          exact bodyPost_ret (v := .tuple #[.slice A' acc.length cp', .int .i64 0, .int .i64 0]) (by simp [results, Tryd.results24, go_sem]) rfl
            ⟨FIN.out.1, A', cp', by rw [E.out], by rw [E.out]; exact FIN.out.2, by rw [E.out]; exact SL.out.2⟩
        · have E : Hid (prsF l = ([], 0, 1)) := hide (by rw [EF.out, HP.out]; unfold doneL doneE; rw [hv]; rfl)
          rw [hv] at V
          go_wp2_with fail
          refine (V.out _ SL.out.1).mono ?_
          rintro e w3 ⟨rfl, hb⟩
          have FIN := hide (below_via BB.out BB.out.size hb)
          clear hb
          go_wp2
          exact bodyPost_ret (v := .tuple #[.slice none 0 0, .int .i64 0, .int .i64 1]) (by simp [results, Tryd.results24, go_sem]) rfl (RpPost.err FIN.out E.out)
      · rw [if_neg hp] at HP
        have E : Hid (prsF l = ([], (k : Int) + 1, 7)) := hide (EF.out.trans HP.out)
        have q4 : (ps[k] == ([] : List UInt8)) = false := by simp [hp]
        have hp2 : ¬ ps[k] = [] := hp
        have BB := hide (below_via HB1.out HB1.out.size HB.out)
        clear hat hdr hd2 lp R HN HP
        generalize ps[k] = p at *
        go_wp2_with fail
        refine (LI.out _).mono ?_
        rintro e w3 ⟨rfl, hb⟩
        have FIN := hide ((below_via BB.out BB.out.size hb).alloc (below_via BB.out BB.out.size hb).size (.cells #[.string (clR p).nm, .int .i64 (clR p).se, .int .i64 (clR p).we, .int .i64 (clR p).ro, .int .i64 (clR p).dr] 54))
        clear hb
        generalize clB p = ok at *
        generalize clR p = c1 at *
        cases ok
        all_goals
          go_wp2
          exact bodyPost_ret (v := .tuple #[.slice none 0 0, .int .i64 ((k : Int) + 1), .int .i64 7]) (by simp [results, Tryd.results24, go_sem]) rfl (RpPost.err FIN.out E.out)
    · obtain ⟨q, r, hd2⟩ : ∃ q r, ps.drop (k + 1) = q :: r := by
        cases h : ps.drop (k + 1) with
        | nil => rw [List.drop_eq_nil_iff] at h; omega
        | cons q r => exact ⟨q, r, rfl⟩
      rw [hdr, hd2, prs, ← hd2] at HP
      have q2 : ((k : Int) == (ps.length : Int) - 1) = false := by simp; omega
      have q3 : ¬ (k : Int) = (ps.length : Int) - 1 := by omega
      have BB := hide (below_via HB1.out HB1.out.size HB.out)
      have hcr : Hid ((clR ps[k]).nm.size ≤ maxLen) := hide (by
        unfold clR
        split
        · rename_i h
          have hr2 := cl_back h
          have : (clC ps[k]).nm.size ≤ (txC (clC ps[k])).length := by unfold txC; simp
          rw [hr2] at this
          unfold maxLen; omega
        · unfold maxLen clZ; simp [ByteArray.size])
      have ny : clR ps[k] = if clB ps[k] = true then clC ps[k] else clZ := rfl
      rcases Bool.eq_false_or_eq_true (clB ps[k]) with hok | hok
      · rw [if_pos hok] at HP ny
        rw [← ny] at HP
        have LI2 : Hid (∀ W, Calls Tryd.prog 45 #[.string ⟨ps[k].toArray⟩] W fun e w' => e = .returned (.tuple #[(clR ps[k]).val, .bool true]) ∧ Below W.heap.size W w') := hide (fun W => by have := LI.out W; unfold ClPost at this; rw [hok] at this; exact this)
        clear hat hdr hd2 lp ny LI hok
        generalize clR ps[k] = c1 at *
        generalize hpk : ps[k] = p at *
        clear hpk
        go_wp2_with fail
        refine (LI2.out _).mono ?_
        rintro e w3 ⟨rfl, hb⟩
        have R3 := hide ((row_below R.out hb).alloc (.cells #[.string c1.nm, .int .i64 c1.se, .int .i64 c1.we, .int .i64 c1.ro, .int .i64 c1.dr] 54))
        have HB3 := hide ((below_via HB.out HB.out.size hb).alloc (below_via HB.out HB.out.size hb).size (.cells #[.string c1.nm, .int .i64 c1.se, .int .i64 c1.we, .int .i64 c1.ro, .int .i64 c1.dr] 54))
        have hr := (Blk.new w3 54 #[.string c1.nm, .int .i64 c1.se, .int .i64 c1.we, .int .i64 c1.ro, .int .i64 c1.dr]).rules
        have f4 : ∀ u ∈ ([.string c1.nm, .int .i64 c1.se, .int .i64 c1.we, .int .i64 c1.ro, .int .i64 c1.dr] : List Value), u.oneCell' = true := by intro u hu; simp at hu; rcases hu with rfl | rfl | rfl | rfl | rfl <;> rfl
        have f1 : k + 1 ≤ maxLen := by unfold maxLen; omega
        have f2 : (k + 1) * 48 ≤ 140737488355328 := by omega
        have f3 : w1.heap.size ≤ ((w3.alloc (.cells #[.string c1.nm, .int .i64 c1.se, .int .i64 c1.we, .int .i64 c1.ro, .int .i64 c1.dr] 54)).alloc (.cells #[.string c1.nm, .int .i64 c1.se, .int .i64 c1.we, .int .i64 c1.ro, .int .i64 c1.dr] 54)).heap.size := by have := HB3.out.size; simp at this ⊢; omega
        clear hb
        go_wp2_with (at_builtin; refine wpList_append_own _ rfl _ _ 33 rfl w1.heap.size 54 i0 (.agg #[.string ⟨#[]⟩, .int .i64 0, .int .i64 0, .int .i64 0, .int .i64 0]) 5 48 Tryd.underlying33 hi0 hz0 hz1 hz2 rfl (by decide) _ k (flatC acc) rfl (R3.out.alloc (.cells #[.string c1.nm, .int .i64 c1.se, .int .i64 c1.we, .int .i64 c1.ro, .int .i64 c1.dr] 54)) ⟨w3.heap.size + 1, 0, none⟩ 1 1 [.string c1.nm, .int .i64 c1.se, .int .i64 c1.we, .int .i64 c1.ro, .int .i64 c1.dr] rfl rfl (World.news_of_block (cs := #[.string c1.nm, .int .i64 c1.se, .int .i64 c1.we, .int .i64 c1.ro, .int .i64 c1.dr]) (t := 54) (fr := (0, 0)) (heap_new_atG (World.size_alloc _ _))) f4 f1 f2 f3 ?_; intro v' w4 hown4 hgrow _)
        have B5 : Below w1.heap.size w1 w4 := (HB3.out.alloc HB3.out.size (.cells #[.string c1.nm, .int .i64 c1.se, .int .i64 c1.we, .int .i64 c1.ro, .int .i64 c1.dr] 54)).grown hgrow f3 (fun k hk => ((R3.out.alloc (.cells #[.string c1.nm, .int .i64 c1.se, .int .i64 c1.we, .int .i64 c1.ro, .int .i64 c1.dr] 54)).lt k hk).1)
        have B4 := hide (And.intro B5 hown4)
        clear B5 hown4 hgrow
        go_roundw
        case rel => exact ⟨k + 1, acc ++ [c1], by omega, by go_num, by simp [hal], hide (fun c hc => by
            rcases List.mem_append.1 hc with h | h
            · exact HN.out c h
            · rw [List.mem_singleton.1 h]; exact hcr.out), HP, hide B4.out.1, hide (by rw [flatC_append]; exact B4.out.2)⟩
        case measure => simp [intOf]; omega
      · rw [if_neg (by rw [hok]; simp)] at HP
        have E : Hid (prsF l = ([], (k : Int) + 1, 7)) := hide (EF.out.trans HP.out)
        have LI2 : Hid (∀ W, Calls Tryd.prog 45 #[.string ⟨ps[k].toArray⟩] W fun e w' => e = .returned (.tuple #[(clR ps[k]).val, .bool false]) ∧ Below W.heap.size W w') := hide (fun W => by have := LI.out W; unfold ClPost at this; rw [hok] at this; exact this)
        clear hat hdr hd2 lp ny LI hok R HN HP
        generalize clR ps[k] = c1 at *
        generalize hpk : ps[k] = p at *
        clear hpk
        go_wp2_with fail
        refine (LI2.out _).mono ?_
        rintro e w3 ⟨rfl, hb⟩
        have FIN := hide ((below_via BB.out BB.out.size hb).alloc (below_via BB.out BB.out.size hb).size (.cells #[.string c1.nm, .int .i64 c1.se, .int .i64 c1.we, .int .i64 c1.ro, .int .i64 c1.dr] 54))
        clear hb
        go_wp2
        exact bodyPost_ret (v := .tuple #[.slice none 0 0, .int .i64 ((k : Int) + 1), .int .i64 7]) (by simp [results, Tryd.results24, go_sem]) rfl (RpPost.err FIN.out E.out)
end Go.Proofs.YtaaadejamjbcbaaDoor
