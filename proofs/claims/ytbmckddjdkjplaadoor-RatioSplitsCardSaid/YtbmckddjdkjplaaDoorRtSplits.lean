/- RatioSplits: dividing a weight divides its share: for all totals and weights the law returns true. -/
import Derived.Test.YtbmckddjdkjplaaDoorRtAdds
import Derived.Test.YtbmckddjdkjplaaDoorRtSplitP
import Derived.Test.YtbmckddjdkjplaaDoorRtIns
import Derived.Test.YtbmckddjdkjplaaDoorShelf4
import Derived.Test.YtbmckddjdkjplaaDoorIntEqQ
namespace Go.Proofs.YtbmckddjdkjplaaDoor
open Go Go.RowKit

/-- a slice of known length, with room, and an error -/
def ShareC (m : List Int) (n : Nat) (er : Int) (w : World) (e : Ending) (w' : World) : Prop := Below w.heap.size w w' ∧ ∃ (A : Option Addr) (cap : Nat), e = .returned (.tuple #[.slice A n cap, .int .i64 er]) ∧ IntSl w' A m ∧ n ≤ cap
theorem SharePost.c {t : Int} {l m : List Int} {n : Nat} {er : Int} {w w' : World} {e : Ending} (h : SharePost t l w e w') (h1 : shL t l = m) (h2 : m.length = n) (h3 : shE t l = er) : ShareC m n er w e w' :=
  ⟨h.1, by obtain ⟨A, c, k1, k2, _, k3⟩ := h.2; exact ⟨A, c, by rw [k1, h1, h2, h3], by rw [← h1]; exact k2, by rw [← h2, ← h1]; exact k3⟩⟩
theorem eqB_self' (l : List Int) : eqB l l = true := by simp [eqB]
theorem IntSl.take {w : World} {A : Option Addr} {l : List Int} (h : IntSl w A l) (k : Nat) : IntSl w A (l.take k) := by
  refine ⟨⟨by rw [List.length_take]; have := h.1.1; omega, fun i hi => by rw [List.getElem_take]; exact h.1.2 i _⟩, fun hl => ?_⟩
  obtain ⟨b, off, e, hb, hat⟩ := h.2 (by rw [List.length_take] at hl; omega)
  exact ⟨b, off, e, hb, fun i hi => by rw [List.getElem_take]; exact hat i _⟩
theorem IntSl.drop {w : World} {b off : Nat} {l : List Int} (h : IntSl w (some ⟨b, off, none⟩) l) (k : Nat) : IntSl w (some ⟨b, off + k, none⟩) (l.drop k) := by
  refine ⟨⟨by rw [List.length_drop]; have := h.1.1; omega, fun i hi => by rw [List.getElem_drop]; exact h.1.2 _ _⟩, fun hl => ?_⟩
  rw [List.length_drop] at hl
  obtain ⟨b', off', e, hb, hat⟩ := h.2 (by omega)
  cases e
  exact ⟨b, off + k, rfl, hb, fun i hi => by rw [List.getElem_drop, Nat.add_assoc]; exact hat _ _⟩
theorem IntSl.dropIf {w : World} {b off cp k : Nat} {l : List Int} (h : IntSl w (some ⟨b, off, none⟩) l) (hcp : l.length ≤ cp) : IntSl w (if cp = k then some ⟨b, off, none⟩ else some ⟨b, off + k, none⟩) (l.drop k) := by
  by_cases e : cp = k
  · rw [List.drop_eq_nil_of_le (by omega)]
    exact IntSl.nil _ _
  · rw [if_neg e]
    exact h.drop k
set_option maxRecDepth 100000 in
set_option maxHeartbeats 8000000 in
theorem splits_law (t u : Int) (l : List Int) (A : Option Addr) (cap : Nat) (at_ ct : Int) (w : World) (ht0 : 0 ≤ t) (hu0 : 0 ≤ u) (hat : 0 ≤ at_ ∧ at_ ≤ 255) (hct : 0 ≤ ct ∧ ct ≤ 4294967295) (hl : U32Sl w A l) (ht : PowTab w) :
    Calls Tryd.prog 11 #[.int .u64 t, .int .u64 u, .slice A l.length cap, .int .u8 at_, .int .u32 ct] w (RetB (.bool true) w) := by
  have X := Own.start w
  have HT := hide ht
  have HL := hide hl
  have hlen : l.length ≤ 9223372036854775807 := hl.1.1
  have hbd := hide hl.1.2
  clear ht hl
  by_cases h0 : l.length = 0
  · have c1 : ((l.length : Int) == 0) = true := by simp [h0]
    clear h0
    go_enter Tryd.func11, Tryd.ntmps11
    go_wp2_with fail
    refine (awake_any _ HT.out).mono ?_
    rintro e w1 ⟨rfl, hb⟩
    replace X := X.to hb
    go_wp2
    go_ret
    exact ⟨rfl, X.1⟩
  have c0 : ((l.length : Int) == 0) = false := by simpa using h0
  by_cases h200 : 200 < l.length
  · have c1 : decide ((200 : Int) < (l.length : Int)) = true := decide_eq_true (by omega)
    clear h200 h0
    go_enter Tryd.func11, Tryd.ntmps11
    go_wp2_with fail
    refine (awake_any _ HT.out).mono ?_
    rintro e w1 ⟨rfl, hb⟩
    replace X := X.to hb
    go_wp2
    go_ret
    exact ⟨rfl, X.1⟩
  have c1 : decide ((200 : Int) < (l.length : Int)) = false := decide_eq_false (by omega)
  have hl200 : l.length ≤ 200 := by omega
  have hl1 : 1 ≤ l.length := by omega
  obtain ⟨T, eT⟩ : ∃ T : Nat, t.tmod 1099511627777 = (T : Int) := ⟨(t % 1099511627777).toNat, by rw [tmod_nat ht0]; omega⟩
  have hT : T ≤ 1099511627776 := by have := tmod_nat (k := 1099511627777) ht0; omega
  obtain ⟨R, eR⟩ : ∃ R : Nat, u.tmod 1099511627776 = (R : Int) := ⟨(u % 1099511627776).toNat, by rw [tmod_nat hu0]; omega⟩
  have hR : R ≤ 1099511627775 := by have := tmod_nat (k := 1099511627776) hu0; omega
  obtain ⟨N, eN⟩ : ∃ N : Nat, min (1099511627776 : Int) ((T : Int) + (R : Int)) = (N : Int) := ⟨(min (1099511627776 : Int) ((T : Int) + (R : Int))).toNat, by omega⟩
  have hN1 : (N : Int) ≤ 1099511627776 := by rw [← eN]; exact Int.min_le_left _ _
  have hN2 : (T : Int) ≤ (N : Int) := by rw [← eN]; exact Int.le_min.2 ⟨by omega, by omega⟩
  have hTN : T ≤ N ∧ N ≤ 1099511627776 := ⟨Int.ofNat_le.1 hN2, by omega⟩
  have hT2 : (T : Int) ≤ 1099511627776 := by omega
  have hR2 : (R : Int) ≤ 1099511627775 := by omega
  have hml := mW_length l
  have HM := hide hml
  obtain ⟨K, eK⟩ : ∃ K : Nat, at_.tmod (l.length : Int) = (K : Int) := ⟨(at_ % (l.length : Int)).toNat, by rw [tmod_nat hat.1]; have := Int.emod_nonneg at_ (show (l.length : Int) ≠ 0 by omega); omega⟩
  have hK : K < l.length := by have h1 := tmod_nat (k := (l.length : Int)) hat.1; have h2 := Int.emod_lt_of_pos at_ (show (0 : Int) < (l.length : Int) by omega); omega
  have hn0 : (l.length : Int) ≠ 0 := by omega
  obtain ⟨at0, at1⟩ := hat
  obtain ⟨ct0, ct1⟩ := hct
  have HT2 := hide (And.intro hT (And.intro hTN.1 hTN.2))
  obtain ⟨i0, hi0, hz0, hz1, hz2⟩ := info_parts int_info
  clear h200 hT hR hml h0 hTN hN2
  go_enter Tryd.func11, Tryd.ntmps11
  go_wp2_with fail
  refine (awake_any _ HT.out).mono ?_
  rintro e w1 ⟨rfl, hb⟩
  replace X := X.to hb
  have HB := hide X.1
  clear hb X
  go_wp2
  go_loopw [13, 49] (fun v13 v49 wr => ∃ k : Nat, k ≤ l.length ∧ v49 = .int .i64 k ∧
    Hid (Below w.heap.size w wr ∧ wr.ownsRow w.heap.size 3 1 v13 k (((mW l).take k).map (Value.int .i64)))) (fun _ v49 _ => l.length - (intOf v49).toNat)
  case atStart => exact ⟨0, Nat.zero_le _, rfl, hide ⟨HB.out, by simpa using World.ownsRow_nil _ _ _ _⟩⟩
  case round =>
    obtain ⟨k, hk, rfl, HR⟩ := hrel
    by_cases hlt : k < l.length
    · have hlt' : k < (mW l).length := by rw [HM.out]; exact hlt
      obtain ⟨b, off, rfl, hbl, hat⟩ := (HL.out.below HR.out.1).2 (by omega)
      have c2 := hat k hlt
      have hx := hbd.out k hlt
      have em := mW_at l k hlt
      have hm := mW_bd l k hlt'
      have et := take_snocR (mW l) k hlt'
      have tm := tmod_nat (k := 1048577) hx.1
      rw [← em] at tm
      have EP := hide et
      obtain ⟨m0, m1⟩ := hm
      obtain ⟨x0, x1⟩ := hx
      clear hat em et
      generalize (mW l)[k] = m at *
      generalize (mW l).take k = R' at *
      generalize l[k] = x at *
      generalize wr = W at *
      go_wp2_with (at_builtin; refine wpList_append_own _ rfl _ _ 32 rfl w.heap.size 3 i0 (.int .i64 0) 1 8 Tryd.underlying32 hi0 hz0 hz1 hz2 rfl (by decide) _ k (R'.map (Value.int .i64)) rfl (HR.out.2.alloc (.cells #[.int .i64 m] 3)) ⟨W.heap.size, 0, none⟩ 1 1 [.int .i64 m] rfl rfl (World.news_of_block (cs := #[.int .i64 m]) (t := 3) (fr := (0, 0)) (heap_new_at (by rfl))) (by simp [Value.oneCell']) (by unfold maxLen; omega) (by omega) (by have := HR.out.1.size; simp; omega) ?_; intro v4 w4 hown4 hgrow _)
      have B5 : Below w.heap.size w w4 := (HR.out.1.alloc HR.out.1.size (.cells #[.int .i64 m] 3)).grown hgrow (by have := HR.out.1.size; simp; omega) (fun k hk => ((HR.out.2.alloc (.cells #[.int .i64 m] 3)).lt k hk).1)
      have B4 := hide (And.intro B5 hown4)
      clear B5 hown4 hgrow
      go_roundw
      case rel => exact ⟨k + 1, by omega, by go_num, hide ⟨B4.out.1, by rw [EP.out, List.map_append]; exact B4.out.2⟩⟩
      case measure => simp [intOf]; omega
    · have e : k = l.length := by omega
      subst e
      clear hlt
      have htk : (mW l).take l.length = mW l := by rw [← HM.out]; exact List.take_length
      rw [htk] at HR
      have hbw : ∀ i (h : i < (mW l).length), -9223372036854775808 ≤ (mW l)[i] ∧ (mW l)[i] ≤ 9223372036854775807 := fun i h => by have := mW_bd l i h; omega
      obtain ⟨A', cp, rfl, hsl⟩ := IntSl.of_row HR.out.2 (by rw [HM.out]; omega) hbw
      have hKm : K < (mW l).length := by rw [HM.out]; exact hK
      obtain ⟨b, off, rfl, hbl, hcat⟩ := hsl.2 (by omega)
      have hmK := mW_bd l K hKm
      obtain ⟨hp1, hp2, hp3⟩ := parted (mW l) K hKm
      have cK := hcat K hKm
      have hmok := mW_ok l
      have hmsum := mW_sum l
      -- the list in parts
      generalize hp : (mW l).take K = p at *
      generalize hq : (mW l).drop (K + 1) = q at *
      generalize hm : (mW l)[K] = m at *
      obtain ⟨C, eC⟩ : ∃ C : Nat, ct.tmod (m + 1) = (C : Int) := ⟨(ct % (m + 1)).toNat, by rw [tmod_nat ct0]; have := Int.emod_nonneg ct (show m + 1 ≠ 0 by omega); omega⟩
      have hC : (C : Int) ≤ m := by have h1 := tmod_nat (k := m + 1) ct0; have h2 := Int.emod_lt_of_pos ct (show (0 : Int) < m + 1 by omega); omega
      have hm1 : m + 1 ≠ 0 := by omega
      obtain ⟨m0, m1⟩ := hmK
      have HS := hide hsl
      have HR2 := hide HR.out.1
      have HP := hide (And.intro hp1 (And.intro hp2 (And.intro hp3 (And.intro hmok hmsum))))
      have hk1 : (K : Int) < (l.length : Int) := by omega
      rw [HM.out] at hKm ⊢
      clear HM hsl HR hbw htk hcat hp hq hm hp1 hp2 hp3 hmok hmsum
      have hat0 : ∀ j, j < (mW l).length → wr.cell? ⟨b, off + j, none⟩ = some (.int .i64 ((mW l).getD j 0)) := fun j hj => by
        obtain ⟨b1, off1, e1, _, h1⟩ := HS.out.2 (by omega)
        cases e1
        rw [h1 j hj]
        simp [hj]
      have CL := Tryd.slices_Clone_int b off l.length cp (mW l) wr (by rw [mW_length]; omega) (by omega) hat0
      have CL := hide CL
      clear hat0
      go_wp2_with fail
      refine CL.out.mono ?_
      rintro e W1 ⟨v', rfl, hown, hnil, hb1⟩
      clear CL hnil
      rw [List.take_of_length_le (by rw [mW_length]; omega)] at hown
      rcases hown.2 with ⟨_, hz⟩ | ⟨g, cap2, cur, rfl, hgB, hgc, hncap, hcm, hcsz, hcut⟩
      · omega
      have hgl : g < W1.heap.size := (Array.getElem?_eq_some_iff.1 hgc).1
      have INS := insert_any wr.heap.size l.length cap2 K g W1.heap.size ((mW l).map (Value.int .i64)) cur.toList (.int .i64 (C : Int)) (W1.alloc (.cells #[.int .i64 (C : Int)] 3)) hK (by simp [mW_length]) (by omega) hncap hcm
        ((Below.heap_alloc W1 _ g hgl).trans (by simpa using hgc)) (by simpa using hcsz) (by simpa using hcut) (fun v hv => by obtain ⟨z, _, rfl⟩ := List.mem_map.1 hv; rfl) rfl (heap_alloc_new W1 _) (by omega) hgB (by have := hb1.size; simp; omega)
      have INS := hide INS
      have HB1 := hide hb1
      clear hown hgc hcut hcsz hb1
      go_wp2_with fail
      refine INS.out.mono ?_
      rintro e W2 ⟨hb2, g2, cap3, rfl, hg2B, hg2l, hcap3, hcells, hfz⟩
      clear INS
      have hB2 : Below wr.heap.size wr W2 := (HB1.out.alloc HB1.out.size _).trans hb2
      have eL : ((mW l).map (Value.int .i64)).take K ++ Value.int .i64 (C : Int) :: ((mW l).map (Value.int .i64)).drop K = (p ++ (C : Int) :: m :: q).map (Value.int .i64) := by
        rw [HP.out.1, List.map_append, List.take_left' (by rw [List.length_map]; exact HP.out.2.1), List.drop_left' (by rw [List.length_map]; exact HP.out.2.1)]
        simp
      rw [eL] at hcells
      have c3 : W2.cell? ⟨g2, K + 1, none⟩ = some (.int .i64 m) := hcells (K + 1) _ (by
        rw [List.map_append, List.getElem?_append_right (by rw [List.length_map, HP.out.2.1]; omega), List.length_map, HP.out.2.1, show K + 1 - K = 1 by omega]
        rfl)
      have cK2 : W2.cell? ⟨b, off + K, none⟩ = some (.int .i64 m) := by rw [hB2.cell hbl]; exact cK
      have hfz2 := hfz (K + 1)
      have hs3 : IntSl (W2.setCell ⟨g2, K + 1, none⟩ (.int .i64 (m - (C : Int)))) (some ⟨g2, 0, none⟩) (p ++ (C : Int) :: (m - (C : Int)) :: q) := by
        have hw2 := wOk_two (c := (C : Int)) (by rw [← HP.out.1]; exact HP.out.2.2.2.1) (by omega) hC
        have hln : (p ++ (C : Int) :: (m - (C : Int)) :: q).length = l.length + 1 := by simp; have := HP.out.2.1; have := HP.out.2.2.1; rw [mW_length] at this; omega
        refine ⟨⟨by omega, fun i hi => by have := hw2 i hi; omega⟩, fun _ => ⟨g2, 0, rfl, by simpa [World.setCell] using hg2l, fun i hi => ?_⟩⟩
        rw [Nat.zero_add]
        have es : p ++ (C : Int) :: (m - (C : Int)) :: q = (p ++ (C : Int) :: m :: q).set (K + 1) (m - (C : Int)) := by
          rw [List.set_append_right _ _ (by rw [HP.out.2.1]; omega), HP.out.2.1, show K + 1 - K = 1 by omega]
          rfl
        by_cases hi1 : i = K + 1
        · subst hi1
          rw [World.cell?_setCell_same _ _ _ c3]
          congr 2
          simp [es]
        · rw [World.cell?_setCell_other _ _ _ _ (by simp <;> omega)]
          have hh := hcells i (.int .i64 ((p ++ (C : Int) :: m :: q)[i]'(by rw [es] at hi; simpa using hi))) (by
            rw [List.getElem?_map, List.getElem?_eq_getElem (by rw [es] at hi; simpa using hi)]
            rfl)
          rw [hh]
          congr 2
          simp only [es]
          rw [List.getElem_set_ne (by omega)]
      have HB3 := hide (below_set hB2 hg2B (b := g2) (o := K + 1) (.int .i64 (m - (C : Int))))
      have HS3 := hide hs3
      have HS1 := hide (HS.out.below HB3.out)
      clear hs3 hcells eL hfz hb2 hB2
      obtain ⟨two, hTwo⟩ : ∃ two, two = p ++ (C : Int) :: (m - (C : Int)) :: q := ⟨_, rfl⟩
      have hw2 : wOk two := by rw [hTwo]; exact wOk_two (by rw [← HP.out.1]; exact HP.out.2.2.2.1) (by omega) hC
      have hln : two.length = l.length + 1 := by rw [hTwo]; simp; have := HP.out.2.1; have := HP.out.2.2.1; rw [mW_length] at this; omega
      have hsm : two.sum = (mW l).sum := by rw [hTwo, sum_two, ← HP.out.1]
      have hmb := HP.out.2.2.2.2
      rw [← hTwo] at HS3
      have SA := shE_gen (l := mW l) (T := T) (by rw [mW_length]; omega) HT2.out.1 (mW_ok l) (by omega)
      have SB := shE_gen (l := two) (T := T) (by omega) HT2.out.1 hw2 (by omega)
      have SC := shE_gen (l := mW l) (T := N) (by rw [mW_length]; omega) HT2.out.2.2 (mW_ok l) (by omega)
      rw [hsm] at SB
      have D1 := fun W h => share_any (T : Int) (mW l) (some ⟨b, off, none⟩) cp W h
      have D2 := fun W h => share_any (T : Int) two (some ⟨g2, 0, none⟩) cap3 W h
      have D3 := fun W h => share_any (N : Int) (mW l) (some ⟨b, off, none⟩) cp W h
      rw [mW_length] at D1 D3
      rw [hln] at D2
      by_cases hz : (mW l).sum = 0
      · rw [if_pos hz] at SA SB SC
        have C1 := hide (fun W h => (D1 W h).mono fun _ _ hp => SharePost.n hp (m := []) (n := 0) (er := 16) (by unfold shL; rw [SA]; rfl) rfl SA)
        have C2 := hide (fun W h => (D2 W h).mono fun _ _ hp => SharePost.n hp (m := []) (n := 0) (er := 16) (by unfold shL; rw [SB]; rfl) rfl SB)
        have C3 := hide (fun W h => (D3 W h).mono fun _ _ hp => SharePost.n hp (m := []) (n := 0) (er := 16) (by unfold shL; rw [SC]; rfl) rfl SC)
        clear D1 D2 D3 SA SB SC hz hsm hmb hw2 hTwo hln
        go_wp2_with fail
        refine (C1.out _ HS1.out).mono ?_
        rintro e W4 ⟨hb4, A4, cp4, rfl, hs4⟩
        have K4 := hide (below_via HB3.out HB3.out.size hb4)
        have HS3' := hide (HS3.out.below hb4)
        clear hs4 hb4
        go_wp2_with fail
        refine (C2.out _ HS3'.out).mono ?_
        rintro e W5 ⟨hb5, A5, cp5, rfl, hs5⟩
        have K5 := hide (below_via K4.out K4.out.size hb5)
        clear hs5 hb5
        go_wp2_with fail
        refine (C3.out _ (HS.out.below K5.out)).mono ?_
        rintro e W6 ⟨hb6, A6, cp6, rfl, hs6⟩
        have K6 := below_via K5.out K5.out.size hb6
        have K7 := below_via HR2.out HR2.out.size K6
        clear hs6 hb6 K6
        go_wp2
        go_ret
        exact ⟨rfl, K7⟩
      rw [if_neg hz] at SA SB SC
      have hS : 0 < (mW l).sum := by omega
      have C1 := hide (fun W h => (D1 W h).mono fun _ _ hp => SharePost.c hp (m := shK (T : Int) (mW l).sum (mW l) l.length) (n := l.length) (er := 0) (by unfold shL; rw [SA, if_pos rfl, mW_length]) (shK_length _ _ _ _) SA)
      have C2 := hide (fun W h => (D2 W h).mono fun _ _ hp => SharePost.c hp (m := shK (T : Int) (mW l).sum two (l.length + 1)) (n := l.length + 1) (er := 0) (by unfold shL; rw [SB, if_pos rfl, hsm, hln]) (shK_length _ _ _ _) SB)
      have C3 := hide (fun W h => (D3 W h).mono fun _ _ hp => SharePost.c hp (m := shK (N : Int) (mW l).sum (mW l) l.length) (n := l.length) (er := 0) (by unfold shL; rw [SC, if_pos rfl, mW_length]) (shK_length _ _ _ _) SC)
      have SF := split_facts (T : Int) (mW l).sum p (C : Int) m q
      rw [← hTwo, ← HP.out.1, HP.out.2.1, show K + 1 + q.length = l.length by (have := HP.out.2.2.1; rw [mW_length] at this; omega), show K + 2 + q.length = l.length + 1 by (have := HP.out.2.2.1; rw [mW_length] at this; omega)] at SF
      have HF := hide (And.intro SF (And.intro hS (And.intro hw2 (And.intro hsm (And.intro hln hmb)))))
      clear D1 D2 D3 SA SB SC hz hsm hmb hw2 hTwo hln SF hS
      go_wp2_with fail
      refine (C1.out _ HS1.out).mono ?_
      rintro e W4 ⟨hb4, A4, cp4, rfl, hs4, hcp4⟩
      have K4 := hide (below_via HB3.out HB3.out.size hb4)
      have HS3' := hide (HS3.out.below hb4)
      replace hs4 := hide hs4
      clear hb4
      go_wp2_with fail
      refine (C2.out _ HS3'.out).mono ?_
      rintro e W5 ⟨hb5, A5, cp5, rfl, hs5, hcp5⟩
      have K5 := hide (below_via K4.out K4.out.size hb5)
      replace hs4 := hide (hs4.out.below hb5)
      replace hs5 := hide hs5
      clear hb5
      go_wp2_with fail
      refine (C3.out _ (HS.out.below K5.out)).mono ?_
      rintro e W6 ⟨hb6, A6, cp6, rfl, hs6, hcp6⟩
      have K6 := hide (below_via HR2.out HR2.out.size (below_via K5.out K5.out.size hb6))
      replace hs4 := hide (hs4.out.below hb6)
      replace hs5 := hide (hs5.out.below hb6)
      replace hs6 := hide hs6
      clear hb6 C1 C2 C3 HS3' HS1 HS3 HS K4 K5 HB1 HB3
      obtain ⟨b1, o1, rfl, hl1, hc1⟩ := hs4.out.2 (by rw [shK_length]; omega)
      obtain ⟨b2, o2, rfl, hl2, hc2⟩ := hs5.out.2 (by rw [shK_length]; omega)
      obtain ⟨b3, o3, rfl, hl3, hc3⟩ := hs6.out.2 (by rw [shK_length]; omega)
      have e1 := hc1 K (by rw [shK_length]; omega)
      have e2 := hc2 K (by rw [shK_length]; omega)
      have e3 := hc2 (K + 1) (by rw [shK_length]; omega)
      have v1 : (shK (T : Int) (mW l).sum (mW l) l.length)[K]'(by rw [shK_length]; omega) = qK (T : Int) (mW l).sum (mW l) (K + 1) - qK (T : Int) (mW l).sum (mW l) K := by
        have e := shK_at (T : Int) (mW l).sum (mW l) l.length K hK
        rw [List.getElem?_eq_getElem (by rw [shK_length]; omega)] at e
        injection e
      have v2 : (shK (T : Int) (mW l).sum two (l.length + 1))[K]'(by rw [shK_length]; omega) = qK (T : Int) (mW l).sum two (K + 1) - qK (T : Int) (mW l).sum two K := by
        have e := shK_at (T : Int) (mW l).sum two (l.length + 1) K (by omega)
        rw [List.getElem?_eq_getElem (by rw [shK_length]; omega)] at e
        injection e
      have v3 : (shK (T : Int) (mW l).sum two (l.length + 1))[K + 1]'(by rw [shK_length]; omega) = qK (T : Int) (mW l).sum two (K + 2) - qK (T : Int) (mW l).sum two (K + 1) := by
        have e := shK_at (T : Int) (mW l).sum two (l.length + 1) (K + 1) (by omega)
        rw [List.getElem?_eq_getElem (by rw [shK_length]; omega)] at e
        injection e
      rw [v1] at e1
      rw [v2] at e2
      rw [v3] at e3
      have q0 := qK_bd (t := (T : Int)) (l := mW l) (by omega) HF.out.2.1 (mW_ok l) (Int.le_refl _) K (by omega)
      have q1 := qK_bd (t := (T : Int)) (l := mW l) (by omega) HF.out.2.1 (mW_ok l) (Int.le_refl _) (K + 1) (by omega)
      have q2 := qK_bd (t := (T : Int)) (l := two) (by omega) HF.out.2.1 HF.out.2.2.1 (by rw [HF.out.2.2.2.1]; exact Int.le_refl _) (K + 1) (by rw [HF.out.2.2.2.2.1]; omega)
      have r1 := HF.out.1.2.2.1
      have r2 := HF.out.1.2.2.2
      rw [r1] at e2
      rw [r2] at e3
      clear v1 v2 v3 r1 r2 hc1 hc2 hc3
      generalize hz1 : qK (T : Int) (mW l).sum (mW l) (K + 1) = z1 at *
      generalize hz0 : qK (T : Int) (mW l).sum (mW l) K = z0 at *
      generalize hz2 : qK (T : Int) (mW l).sum two (K + 1) = z2 at *
      obtain ⟨q01, q02⟩ := q0
      obtain ⟨q11, q12⟩ := q1
      obtain ⟨q21, q22⟩ := q2
      have sm : z2 - z0 + (z1 - z2) = z1 - z0 := by omega
      have E1 : ∀ n, Calls Tryd.prog 20 #[.slice (some ⟨b1, o1, none⟩) K cp4, .slice (some ⟨b2, o2, none⟩) K cp5] (W6.drewN n) fun e w' => e = .returned (.bool true) ∧ ∃ d, w' = (W6.drewN n).drewN d := fun n => by
        have hW := below_drewN (Below.refl W6.heap.size W6) n
        have h := equalQ_any ((shK (T : Int) (mW l).sum (mW l) l.length).take K) ((shK (T : Int) (mW l).sum two (l.length + 1)).take K) (some ⟨b1, o1, none⟩) (some ⟨b2, o2, none⟩) cp4 cp5 (W6.drewN n) ((hs4.out.below hW).take K) ((hs5.out.below hW).take K)
        rw [HF.out.1.1, eqB_self'] at h
        rw [List.length_take, shK_length, Nat.min_eq_left (by omega)] at h
        exact h
      have E2 : ∀ n c c', Calls Tryd.prog 20 #[.slice (if cp4 = K + 1 then some ⟨b1, o1, none⟩ else some ⟨b1, o1 + (K + 1), none⟩) (l.length - (K + 1)) c, .slice (if cp5 = K + 2 then some ⟨b2, o2, none⟩ else some ⟨b2, o2 + (K + 2), none⟩) (l.length - (K + 1)) c'] (W6.drewN n) fun e w' => e = .returned (.bool true) ∧ ∃ d, w' = (W6.drewN n).drewN d := fun n c c' => by
        have hW := below_drewN (Below.refl W6.heap.size W6) n
        have h := equalQ_any ((shK (T : Int) (mW l).sum (mW l) l.length).drop (K + 1)) ((shK (T : Int) (mW l).sum two (l.length + 1)).drop (K + 2)) (if cp4 = K + 1 then some ⟨b1, o1, none⟩ else some ⟨b1, o1 + (K + 1), none⟩) (if cp5 = K + 2 then some ⟨b2, o2, none⟩ else some ⟨b2, o2 + (K + 2), none⟩) c c' (W6.drewN n) ((hs4.out.below hW).dropIf (by rw [shK_length]; exact hcp4)) ((hs5.out.below hW).dropIf (by rw [shK_length]; exact hcp5))
        rw [show eqB ((shK (T : Int) (mW l).sum (mW l) l.length).drop (K + 1)) ((shK (T : Int) (mW l).sum two (l.length + 1)).drop (K + 2)) = true by rw [HF.out.1.2.1]; exact eqB_self' _] at h
        rw [List.length_drop, List.length_drop, shK_length, shK_length, show l.length + 1 - (K + 2) = l.length - (K + 1) by omega] at h
        exact h
      have E1 := hide E1
      have E2 := hide E2
      have hKc4 : (K : Int) ≤ (cp4 : Int) := by omega
      have hKc5 : (K : Int) ≤ (cp5 : Int) := by omega
      have x1 : IntKind.i64.wrap ((l.length : Int) + 1) = (l.length : Int) + 1 := w64 (by omega) (by omega)
      have x2 : IntKind.i64.wrap ((K : Int) + 1) = (K : Int) + 1 := w64 (by omega) (by omega)
      have x3 : IntKind.i64.wrap ((K : Int) + 2) = (K : Int) + 2 := w64 (by omega) (by omega)
      have x4 : IntKind.i64.wrap (z2 - z0 + (z1 - z2)) = z1 - z0 := (w64 (by omega) (by omega)).trans sm
      have x4' : IntKind.i64.wrap (z1 - z0) = z1 - z0 := w64 (by omega) (by omega)
      have x5 : (0 : Int) ≤ (K : Int) + 1 := by omega
      have x6 : (K : Int) + 1 < (l.length : Int) + 1 := by omega
      have x7 : ((K : Int) + 1).toNat = K + 1 := by omega
      have x8 : ((K : Int) + 2).toNat = K + 2 := by omega
      have x9 : (0 : Int) ≤ (K : Int) := by omega
      have x10 : (K : Int) < (l.length : Int) + 1 := by omega
      have x11 : (K : Int) + 1 ≤ (l.length : Int) := by omega
      have x12 : (K : Int) + 2 ≤ (l.length : Int) + 1 := by omega
      have x13 : (0 : Int) ≤ (K : Int) + 2 := by omega
      have x14 : (l.length : Int) ≤ (cp4 : Int) := by omega
      have x15 : (l.length : Int) + 1 ≤ (cp5 : Int) := by omega
      have sm2 : (z2 - z0 + (z1 - z2) == z1 - z0) = true := by simp; omega
      have sm3 : (z2 - z0 + (z1 - z2) != z1 - z0) = false := by simp; omega
      go_wp2_with fail
      go_quiet ((first | (go_at_call 20; with_reducible exact Calls.quiet_of (E1.out _)) | (go_at_call 20; with_reducible exact Calls.quiet_of (E2.out _ _ _))))
      have K7 := hide (below_via K6.out K6.out.size (below_drewN (Below.refl W6.heap.size W6) nq))
      have HS6 := hide (hs6.out.below (below_drewN (Below.refl W6.heap.size W6) nq))
      have HS4 := hide (hs4.out.below (below_drewN (Below.refl W6.heap.size W6) nq))
      have eN1 : ((shK (N : Int) (mW l).sum (mW l) l.length)).length = l.length := shK_length _ _ _ _
      have eN2 : ((shK (T : Int) (mW l).sum (mW l) l.length)).length = l.length := shK_length _ _ _ _
      have LN := hide (And.intro eN1 eN2)
      generalize World.drewN _ nq = W7 at *
      clear E1 E2 e1 e2 e3 hs4 hs5 hs6 sm sm2 sm3 x2 x3 x4 x4' x5 x6 x7 x8 x10 x11 x12 x13 eN1 eN2
      go_wp2
      all_goals
        go_loopw [25, 26, 188] (fun v25 v26 v188 wr' => ∃ k : Nat, k ≤ l.length ∧ v188 = .int .i64 k ∧ v25 = .int .i64 (qK (T : Int) (mW l).sum (mW l) k) ∧ v26 = .int .i64 (qK (N : Int) (mW l).sum (mW l) k) ∧ Hid (Below W7.heap.size W7 wr')) (fun _ _ v188 _ => l.length - (intOf v188).toNat)
        case atStart => exact ⟨0, Nat.zero_le _, rfl, by rw [qK_zero], by rw [qK_zero], hide (Below.refl _ _)⟩
        case round =>
          obtain ⟨k, hk, rfl, rfl, rfl, HR⟩ := hrel
          by_cases hlt : k < l.length
          · obtain ⟨b1', o1', e1', _, hc1⟩ := (HS4.out.below HR.out).2 (by rw [LN.out.2]; omega)
            obtain ⟨b3', o3', e3', _, hc3⟩ := (HS6.out.below HR.out).2 (by rw [LN.out.1]; omega)
            cases e1'
            cases e3'
            have f1 := hc1 k (by rw [LN.out.2]; exact hlt)
            have f3 := hc3 k (by rw [LN.out.1]; exact hlt)
            have v1 : (shK (T : Int) (mW l).sum (mW l) l.length)[k]'(by rw [LN.out.2]; exact hlt) = qK (T : Int) (mW l).sum (mW l) (k + 1) - qK (T : Int) (mW l).sum (mW l) k := by
              have e := shK_at (T : Int) (mW l).sum (mW l) l.length k hlt
              rw [List.getElem?_eq_getElem (by rw [LN.out.2]; exact hlt)] at e
              injection e
            have v3 : (shK (N : Int) (mW l).sum (mW l) l.length)[k]'(by rw [LN.out.1]; exact hlt) = qK (N : Int) (mW l).sum (mW l) (k + 1) - qK (N : Int) (mW l).sum (mW l) k := by
              have e := shK_at (N : Int) (mW l).sum (mW l) l.length k hlt
              rw [List.getElem?_eq_getElem (by rw [LN.out.1]; exact hlt)] at e
              injection e
            rw [v1] at f1
            rw [v3] at f3
            have a0 := qK_bd (t := (T : Int)) (l := mW l) (by omega) HF.out.2.1 (mW_ok l) (Int.le_refl _) k (by rw [mW_length]; omega)
            have a1 := qK_bd (t := (T : Int)) (l := mW l) (by omega) HF.out.2.1 (mW_ok l) (Int.le_refl _) (k + 1) (by rw [mW_length]; omega)
            have d0 := qK_bd (t := (N : Int)) (l := mW l) (by omega) HF.out.2.1 (mW_ok l) (Int.le_refl _) k (by rw [mW_length]; omega)
            have d1 := qK_bd (t := (N : Int)) (l := mW l) (by omega) HF.out.2.1 (mW_ok l) (Int.le_refl _) (k + 1) (by rw [mW_length]; omega)
            have le := qK_le (T := (T : Int)) (M := (N : Int)) (l := mW l) (by have := HT2.out.2.1; omega) HF.out.2.1 (mW_ok l) (k + 1) (by rw [mW_length]; omega)
            clear v1 v3 hc1 hc3
            have EE := hide (And.intro (show qK (T : Int) (mW l).sum (mW l) k + (qK (T : Int) (mW l).sum (mW l) (k + 1) - qK (T : Int) (mW l).sum (mW l) k) = qK (T : Int) (mW l).sum (mW l) (k + 1) by omega) (show qK (N : Int) (mW l).sum (mW l) k + (qK (N : Int) (mW l).sum (mW l) (k + 1) - qK (N : Int) (mW l).sum (mW l) k) = qK (N : Int) (mW l).sum (mW l) (k + 1) by omega))
            generalize qK (T : Int) (mW l).sum (mW l) k = ta at *
            generalize hgb1 : qK (T : Int) (mW l).sum (mW l) (k + 1) = tb at *
            generalize qK (N : Int) (mW l).sum (mW l) k = na at *
            generalize hgb3 : qK (N : Int) (mW l).sum (mW l) (k + 1) = nb at *
            have GB := hide (And.intro hgb1 hgb3)
            clear hgb1 hgb3
            obtain ⟨a01, a02⟩ := a0
            obtain ⟨a11, a12⟩ := a1
            obtain ⟨d01, d02⟩ := d0
            obtain ⟨d11, d12⟩ := d1
            have y1 : IntKind.i64.wrap (ta + (tb - ta)) = tb := by rw [EE.out.1]; exact w64 (by omega) (by omega)
            have y2 : IntKind.i64.wrap (na + (nb - na)) = nb := by rw [EE.out.2]; exact w64 (by omega) (by omega)
            have y3 : decide (nb < tb) = false := decide_eq_false (by omega)
            have y4 : (0 : Int) ≤ (k : Int) := by omega
            have y5 : (k : Int) < (l.length : Int) := by omega
            have HRb := hide HR.out
            go_wp2_with fail
            go_quiet (fail)
            go_wp2
            go_roundw
            case rel => exact ⟨k + 1, by omega, by go_num, by rw [GB.out.1], by rw [GB.out.2], hide (below_drewN HRb.out _)⟩
            case measure => simp [intOf]; omega
          · have e : k = l.length := by omega
            subst e
            have hfin := below_via K7.out K7.out.size HR.out
            go_wp2
            go_ret
            exact ⟨rfl, hfin⟩
end Go.Proofs.YtbmckddjdkjplaaDoor
