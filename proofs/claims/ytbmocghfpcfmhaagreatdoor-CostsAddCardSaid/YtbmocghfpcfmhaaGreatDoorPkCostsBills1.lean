/- Parts of one proof, joined: Rows of items of the call's own; slices.IndexFunc with what merge looks for; nothing that was there is turned. The program's merge of a bill: the merged bill in memory of the call's own, or the error; nothing that was there is turned. The program's Merge and Compare of bills, slices.Clone at items; nothing that was there is turned. -/
import Derived.Test.YtbmocghfpcfmhaaGreatDoorPkCostsTrenches24
import Derived.Test.YtbmocghfpcfmhaaGreatDoorPkCostsTrenches11
import Derived.Test.YtbmocghfpcfmhaaGreatDoorPkCostsTrenches7
import Derived.Lib.SliceRun
import Derived.Test.YtbmocghfpcfmhaaGreatDoorPkCostsTrenches19
namespace Go.Proofs.YtbmocghfpcfmhaaGreatDoor
open Go Go.RowKit

abbrev Itm.cs (x : Itm) : List Value := [.string x.nm, .int .i64 x.am, .int .i64 x.pr]
def flatItm (l : List Itm) : List Value := l.flatMap Itm.cs
theorem flatItm_append (a b : List Itm) : flatItm (a ++ b) = flatItm a ++ flatItm b := by simp [flatItm]
theorem flatItm_len (l : List Itm) : (flatItm l).length = l.length * 3 := by
  induction l with
  | nil => rfl
  | cons c l ih => simp only [flatItm, List.flatMap_cons, List.length_append, List.length_cons] at ih ⊢; rw [ih]; simp; omega
theorem flatItm_at : ∀ (l : List Itm) (i : Nat) (h : i < l.length), (flatItm l)[i * 3]? = some (.string l[i].nm) ∧ (flatItm l)[i * 3 + 1]? = some (.int .i64 l[i].am) ∧ (flatItm l)[i * 3 + 2]? = some (.int .i64 l[i].pr)
  | [], i, h => absurd h (by simp)
  | c :: l, 0, _ => ⟨rfl, rfl, rfl⟩
  | c :: l, i + 1, h => by
    have ih := flatItm_at l i (by simpa using h)
    have e : flatItm (c :: l) = c.cs ++ flatItm l := rfl
    have k : ∀ j, (flatItm (c :: l))[(i + 1) * 3 + j]? = (flatItm l)[i * 3 + j]? := fun j => by
      rw [e, List.getElem?_append_right (by simp; omega)]
      congr 1
      simp; omega
    exact ⟨(k 0).trans ih.1, (k 1).trans ih.2.1, (k 2).trans ih.2.2⟩
theorem flatItm_set : ∀ (l : List Itm) (i : Nat) (h : i < l.length) (a : Int), (flatItm l).set (i * 3 + 1) (.int .i64 a) = flatItm (l.set i ⟨l[i].nm, a, l[i].pr⟩)
  | [], _, h, _ => absurd h (by simp)
  | c :: l, 0, _, a => rfl
  | c :: l, i + 1, h, a => by
    have ih := flatItm_set l i (by simpa using h) a
    have e : ∀ (c : Itm) l, flatItm (c :: l) = c.cs ++ flatItm l := fun _ _ => rfl
    rw [List.set_cons_succ, e, e, List.set_append_right _ _ (by simp; omega)]
    simp only [List.getElem_cons_succ]
    rw [← ih]
    congr 2
    simp; omega
theorem flatItm_one (l : List Itm) : ∀ u ∈ flatItm l, u.oneCell' = true := by
  intro u hu
  obtain ⟨x, _, hx⟩ := List.mem_flatMap.1 hu
  simp only [Itm.cs, List.mem_cons, List.not_mem_nil, or_false] at hx
  rcases hx with rfl | rfl | rfl <;> rfl
theorem itm_info : (Tryz.prog.info? 54).map (fun i => (i.zero, i.size, i.bytes)) = some (some (.agg #[.string ⟨#[]⟩, .int .i64 0, .int .i64 0]), 3, 32) := by kernel_rfl
/-- a row of items of the call's own reads as a list -/
theorem ItmSl.of_row {w : World} {base : Nat} {e : TypeId} {v : Value} {n : Nat} {l : List Itm} (h : w.ownsRow base e 3 v n (flatItm l)) (hn : ∀ i (h : i < l.length), l[i].nm.size ≤ maxLen) : ∃ A c, v = .slice A l.length c ∧ ItmSl w A l := by
  have hl : n = l.length := by have := h.1; rw [flatItm_len] at this; omega
  subst hl
  rcases h.2 with ⟨rfl, h0⟩ | ⟨g, cap, cur, rfl, _, hg, hc, hm, hs, ht⟩
  · exact ⟨none, 0, by rw [h0], ⟨by rw [h0]; unfold maxLen; omega, hn⟩, fun h => by omega⟩
  · refine ⟨_, cap, rfl, ⟨by omega, hn⟩, fun h0 => ⟨g, 0, rfl, ?_, fun i hi => ?_⟩⟩
    · rcases Nat.lt_or_ge g w.heap.size with k | k
      · exact k
      · rw [Array.getElem?_eq_none k] at hg; cases hg
    · have c : ∀ j u, (flatItm l)[j]? = some u → w.cell? ⟨g, j, none⟩ = some u := fun j u hj => by
        rw [cell_of_row w g j cur e (0, 0) hg]
        rw [← ht] at hj
        rw [List.getElem?_take] at hj
        split at hj
        · simpa using hj
        · cases hj
      obtain ⟨a0, a1, a2⟩ := flatItm_at l i hi
      exact ⟨c _ _ (by rw [Nat.zero_add]; exact a0), c _ _ (by rw [Nat.zero_add]; exact a1), c _ _ (by rw [Nat.zero_add]; exact a2)⟩
/-- one cell of an own row is set -/
theorem row_put {w : World} {base : Nat} {e : TypeId} {size n g cap : Nat} {xs : List Value} (h : w.ownsRow base e size (.slice (some ⟨g, 0, none⟩) n cap) n xs) (j : Nat) (u : Value) :
    (w.setCell ⟨g, j, none⟩ u).ownsRow base e size (.slice (some ⟨g, 0, none⟩) n cap) n (xs.set j u) := by
  refine ⟨by rw [List.length_set]; exact h.1, ?_⟩
  rcases h.2 with ⟨h0, _⟩ | ⟨g', cap', cur, e', hb, hg, hc, hm, hs, ht⟩
  · cases h0
  · simp only [Value.slice.injEq, Option.some.injEq, Addr.mk.injEq, and_true] at e'
    obtain ⟨rfl, -, rfl⟩ := e'
    refine .inr ⟨g, cap, cur.setIfInBounds j u, rfl, hb, ?_, hc, hm, by simpa using hs, ?_⟩
    · exact Blk.set_ (show Blk w g e cur from hg) j u
    · rw [Array.toList_setIfInBounds, List.take_set, ht]
def mgF (bx : Nat) : Value := .func (.func 90) #[] #[.pointer (some ⟨bx, 0, none⟩)]
set_option maxHeartbeats 2000000 in
theorem merge1_any (x y : Itm) (bx : Nat) (w : World) (hB : Blk w bx 54 x.cs.toArray) : Calls Tryz.prog 90 #[y.val, .pointer (some ⟨bx, 0, none⟩)] w (RetW (.bool (same x y)) w) := by
  have E : Hid (same x y = (decide (y.nm = x.nm) && decide (y.pr = x.pr))) := hide rfl
  have X := (show Own w w [(bx, 54, #[.string x.nm, .int .i64 x.am, .int .i64 x.pr])] from ⟨Below.refl _ _, fun z hz => by rw [List.mem_singleton.1 hz]; exact hB⟩).alloc #[.string y.nm, .int .i64 y.am, .int .i64 y.pr] 54
  have n0 := hB.lt
  have n1 : ¬ bx = w.heap.size := by omega
  have hr := X.r2
  have XB := hide X.1
  clear X
  by_cases h1 : y.nm = x.nm
  · have g1 : (y.nm.toList == x.nm.toList) = true := by rw [h1]; simp
    have e1 : decide (y.nm = x.nm) = true := decide_eq_true h1
    by_cases h2 : y.pr = x.pr
    · have g2 : (y.pr == x.pr) = true := by rw [h2]; simp
      have e2 : decide (y.pr = x.pr) = true := decide_eq_true h2
      rw [e1, e2] at E
      clear e1 e2 h1 h2
      go_enter Tryz.func90, Tryz.ntmps90
      go_wp2
      go_ret
      exact ⟨ret_bool (by rw [E.out]; rfl), XB.out⟩
    · have g2 : (y.pr == x.pr) = false := beq_eq_false_iff_ne.2 h2
      have e2 : decide (y.pr = x.pr) = false := decide_eq_false h2
      rw [e1, e2] at E
      clear e1 e2 h1 h2
      go_enter Tryz.func90, Tryz.ntmps90
      go_wp2
      go_ret
      exact ⟨ret_bool (by rw [E.out]; rfl), XB.out⟩
  · have g1 : (y.nm.toList == x.nm.toList) = false := beq_eq_false_iff_ne.2 (fun h => h1 (by
      cases hy : y.nm; cases hx : x.nm
      rw [hy, hx, ByteArray.toList_eq, ByteArray.toList_eq] at h
      congr
      exact Array.toList_inj.1 h))
    have e1 : decide (y.nm = x.nm) = false := decide_eq_false h1
    rw [e1] at E
    clear e1 h1
    go_enter Tryz.func90, Tryz.ntmps90
    go_wp2
    go_ret
    exact ⟨ret_bool (by rw [E.out]; rfl), XB.out⟩
end Go.Proofs.YtbmocghfpcfmhaaGreatDoor

namespace Go.Proofs.YtbmocghfpcfmhaaGreatDoor
open Go Go.RowKit

set_option maxRecDepth 100000 in
set_option maxHeartbeats 2000000 in
theorem idxS_any (x : Itm) (l : List Itm) (A : Option Addr) (cap bx : Nat) (w : World) (hl : ItmSl w A l) (hB : Blk w bx 54 x.cs.toArray) :
    Calls Tryz.prog 80 #[.slice A l.length cap, mgF bx] w (RetW (.int .i64 (idxM (same x) l)) w) := by
  have hlen : l.length ≤ 9223372036854775807 := by have := hl.1.1; unfold maxLen at this; omega
  have H := hide hl
  have HB := hide hB
  have nb := hB.lt
  have CK := hide (fun W o h => merge1_any x o bx W h)
  unfold RetW at CK
  unfold mgF
  clear hl hB
  go_enter Tryz.func80, Tryz.ntmps80
  go_wp2
  go_loopw [8] (fun v8 wr => ∃ k : Nat, k ≤ l.length ∧ v8 = .int .i64 k ∧ Hid (Below w.heap.size w wr) ∧ Hid (∀ i (hi : i < l.length), i < k → same x l[i] = false)) (fun v8 _ => l.length - (intOf v8).toNat)
  case atStart => exact ⟨0, Nat.zero_le _, rfl, hide (Below.refl _ _), hide (fun _ _ h => by omega)⟩
  case round =>
    obtain ⟨k, hk, rfl, HW, hno⟩ := hrel
    by_cases hlt : k < l.length
    · obtain ⟨b, off, rfl, hbl, hat⟩ := (H.out.below HW.out).2 (by omega)
      obtain ⟨c0, c1, c2⟩ := hat k hlt
      have HBk := hide (HB.out.below HW.out nb)
      have CKk := hide (fun W h => CK.out W l[k] h)
      clear hat
      by_cases hs : same x l[k] = true
      · have E := hide (idxM_yes (p := same x) hlt (fun i hi hik => hno.out i hi hik) hs)
        rw [hs] at CKk
        clear hs
        generalize l[k] = o at *
        go_wp2_with fail
        refine (CKk.out _ HBk.out).mono ?_
        rintro e w' ⟨rfl, hb⟩
        go_wp2
        go_ret
        exact ⟨ret_int E.out.symm, below_via HW.out HW.out.size hb⟩
      · have hs : same x l[k] = false := by simpa using hs
        have hno2 := hide (fun i (hi : i < l.length) (hik : i < k + 1) => (show same x l[i] = false by
          by_cases e : i = k
          · subst e; exact hs
          · exact hno.out i hi (by omega)))
        rw [hs] at CKk
        clear hs
        generalize l[k] = o at *
        go_wp2_with fail
        refine (CKk.out _ HBk.out).mono ?_
        rintro e w' ⟨rfl, hb⟩
        have HW2 := hide (below_via HW.out HW.out.size hb)
        clear hb
        go_wp2
        go_roundw
        case rel => exact ⟨k + 1, by omega, by go_num, HW2, hno2⟩
        case measure => simp [intOf]; omega
    · go_wp2
      go_ret
      exact ⟨ret_int (idxM_no fun i hi => hno.out i hi (by omega)).symm, HW.out⟩
/-- a bill in memory, and an error -/
def BilPost (l : List Itm) (er : Int) (w : World) (e : Ending) (w' : World) : Prop := Below w.heap.size w w' ∧ ∃ (A : Option Addr) (c : Nat), e = .returned (.tuple #[.slice A l.length c, .int .i64 er]) ∧ ItmSl w' A l
theorem mgS_nm {l : List Itm} (h : ∀ i (h : i < l.length), l[i].nm.size ≤ maxLen) : ∀ i (h : i < (mgS l).length), (mgS l)[i].nm.size ≤ maxLen := by
  intro i hi
  obtain ⟨_, y, hy, hs⟩ := mgS_mem (List.getElem_mem hi)
  obtain ⟨j, hj, rfl⟩ := List.mem_iff_getElem.1 hy
  rw [(same_iff.1 hs).1]
  exact h j hj
theorem row_blk {w : World} {base : Nat} {e : TypeId} {A : Option Addr} {n c : Nat} {S : List Itm} (h : w.ownsRow base e 3 (.slice A n c) n (flatItm S)) (hn : 0 < n) :
    ∃ (g : Nat) (cur : Array Value), A = some ⟨g, 0, none⟩ ∧ base ≤ g ∧ Blk w g e cur ∧ ∀ (i : Nat) (u : Value), (flatItm S)[i]? = some u → cur[i]? = some u := by
  rcases h.2 with ⟨_, h0⟩ | ⟨g, cap, cur, e', hb, hg, _, _, _, ht⟩
  · omega
  · simp only [Value.slice.injEq] at e'
    refine ⟨g, cur, e'.1, hb, hg, fun i u hj => ?_⟩
    rw [← ht, List.getElem?_take] at hj
    split at hj
    · simpa using hj
    · cases hj
theorem addM_none {s : List Itm} {x : Itm} (h : s.findIdx? (same x) = none) : addM s x = s ++ [x] := by unfold addM; rw [h]
theorem addM_some {s : List Itm} {x : Itm} {k : Nat} (h : s.findIdx? (same x) = some k) : ∃ hk : k < s.length, addM s x = s.set k ⟨s[k].nm, s[k].am + x.am, s[k].pr⟩ := by
  have hk := (List.findIdx?_eq_some_iff_getElem.1 h).1
  refine ⟨hk, ?_⟩
  unfold addM
  rw [h]
  simp [hk]
theorem take_nm {l : List Itm} (h : ∀ i (h : i < l.length), l[i].nm.size ≤ maxLen) (k : Nat) : ∀ i (h : i < (l.take k).length), (l.take k)[i].nm.size ≤ maxLen := by
  intro i hi
  rw [List.getElem_take]
  exact h i (by simp at hi; omega)
theorem mgS_bd {l : List Itm} (hv : ∀ x ∈ l, itB x = true) (hn : l.length ≤ 1000) (k : Nat) {x : Itm} (hx : x ∈ mgS (l.take k)) : -1073741824000 ≤ x.am ∧ x.am ≤ 1073741824000 := by
  have e := (mgS_mem hx).1
  have b := tot_bd x (l.take k) fun y hy => hv y (List.mem_of_mem_take hy)
  have : (l.take k).length ≤ 1000 := by rw [List.length_take]; omega
  omega
set_option maxRecDepth 100000 in
set_option maxHeartbeats 8000000 in
theorem comerge_any (l : List Itm) (A : Option Addr) (cap : Nat) (w : World) (hl : ItmSl w A l) (hv : ∀ x ∈ l, itB x = true) (hn : l.length ≤ 1000) :
    Calls Tryz.prog 49 #[.slice A l.length cap] w (BilPost (mgL l) (mgE l) w) := by
  obtain ⟨i0, hi0, hz0, hz1, hz2⟩ := info_parts itm_info
  have IX := hide (fun x s A c bx W h h' => idxS_any x s A c bx W h h')
  have HL := hide hl
  have NM := hide hl.1.2
  have SN := hide (fun k => mgS_nm (take_nm hl.1.2 k))
  have SL := hide (fun k => (show (mgS (l.take k)).length ≤ 1000 by
    have h1 := mgS_len (l.take k)
    have : (l.take k).length ≤ 1000 := by rw [List.length_take]; omega
    omega))
  have SA := hide (fun k x (hx : x ∈ mgS (l.take k)) => mgS_bd hv hn k hx)
  have IT := hide (fun k (h : k < l.length) => itB_bd (hv l[k] (List.getElem_mem h)))
  have TK := hide (fun k (h : k < l.length) => (show mgS (l.take (k + 1)) = addM (mgS (l.take k)) l[k] by rw [List.take_succ_eq_append_getElem h, mgS_snoc]))
  have TA : Hid (mgS (l.take l.length) = mgS l) := hide (by rw [List.take_length])
  have B1 := hide (fun (n : Int) W => cobetween_any n (-1073741824) 1073741824 W)
  unfold RetW at IX
  have hlen : l.length ≤ 9223372036854775807 := by omega
  clear hl hv
  go_enter Tryz.func49, Tryz.ntmps49
  go_wp2
  have XH := hide (And.intro (Below.refl w.heap.size w) (World.ownsRow_nil w w.heap.size 54 3))
  go_loopw [4, 13] (fun v4 v13 wr => ∃ k : Nat, k ≤ l.length ∧ v13 = .int .i64 (k : Int) ∧ Hid (Below w.heap.size w wr ∧ wr.ownsRow w.heap.size 54 3 v4 (mgS (l.take k)).length (flatItm (mgS (l.take k))))) (fun _ v _ => l.length - (intOf v).toNat)
  case atStart => exact ⟨0, by omega, rfl, XH⟩
  case round =>
    clear XH
    obtain ⟨k, hk, rfl, HY⟩ := hrel
    by_cases hlt : k < l.length
    · have g1 : decide (k < l.length) = true := decide_eq_true hlt
      have g2 : (0 : Int) ≤ (k : Int) := by omega
      have g3 : (k : Int) < (l.length : Int) := by omega
      obtain ⟨b, off, rfl, hbl, hat⟩ := HL.out.2 (by omega)
      obtain ⟨c0, c1, c2⟩ := hat k hlt
      replace c0 := (HY.out.1.cell (p := ⟨b, off + k * 3, none⟩) hbl).trans c0
      replace c1 := (HY.out.1.cell (p := ⟨b, off + k * 3 + 1, none⟩) hbl).trans c1
      replace c2 := (HY.out.1.cell (p := ⟨b, off + k * 3 + 2, none⟩) hbl).trans c2
      have TKk := hide (TK.out k hlt)
      have SLk := SL.out k
      have SNk := hide (SN.out k)
      have SAk := hide (SA.out k)
      obtain ⟨⟨i1, i2⟩, -, -⟩ := IT.out k hlt
      generalize l[k] = x at *
      obtain ⟨S, hS⟩ : ∃ S, S = mgS (l.take k) := ⟨_, rfl⟩
      rw [← hS] at HY TKk SLk SNk SAk
      have wl := HY.out.1.size
      have BA := hide (HY.out.1.alloc wl (.cells #[.string x.nm, .int .i64 x.am, .int .i64 x.pr] 54))
      have RA := hide (HY.out.2.alloc (.cells #[.string x.nm, .int .i64 x.am, .int .i64 x.pr] 54))
      have BX : Blk (wr.alloc (.cells #[.string x.nm, .int .i64 x.am, .int .i64 x.pr] 54)) wr.heap.size 54 #[.string x.nm, .int .i64 x.am, .int .i64 x.pr] := Blk.new _ _ _
      have hlw : wr.heap.size < (wr.alloc (.cells #[.string x.nm, .int .i64 x.am, .int .i64 x.pr] 54)).heap.size := by simp
      obtain ⟨A4, c4, e4, IS⟩ := ItmSl.of_row RA.out SNk.out
      have nb : ¬ b = wr.heap.size := by omega
      have e4 : _ = Value.slice A4 S.length c4 := e4
      subst e4
      have IXk := hide (IX.out x S A4 c4 wr.heap.size _ IS BX)
      have HBX := hide BX
      have HRA := hide RA
      clear HY hS RA IS BX
      go_wp2_with fail
      refine IXk.out.mono ?_
      rintro e w2 ⟨rfl, hb⟩
      have B2 := hide (below_via BA.out BA.out.size hb)
      have R2 := hide (row_below HRA.out hb)
      have X2 := hide (HBX.out.below hb hlw)
      have hl2 : wr.heap.size < w2.heap.size := X2.out.lt
      clear hb HRA HBX BA IXk c0 c1 c2 hlw
      have hr := X2.out.rules
      cases hf : S.findIdx? (same x) with
      | none =>
        have ei : idxM (same x) S = -1 := by unfold idxM; rw [hf]
        rw [ei]
        have EN : Hid (mgS (l.take (k + 1)) = S ++ [x]) := hide (by rw [TKk.out, addM_none hf])
        clear hf ei TKk
        have B6 := hide (B2.out.alloc B2.out.size (.cells #[.string x.nm, .int .i64 x.am, .int .i64 x.pr] 54))
        have R6 := hide (R2.out.alloc (.cells #[.string x.nm, .int .i64 x.am, .int .i64 x.pr] 54))
        have NW := hide (World.news_of_block (cs := #[.string x.nm, .int .i64 x.am, .int .i64 x.pr]) (t := 54) (fr := (0, 0)) (heap_alloc_new w2 _))
        have f4 : ∀ y ∈ [Value.string x.nm, .int .i64 x.am, .int .i64 x.pr], y.oneCell' = true := by simp [Value.oneCell']
        have f1 : S.length + 1 ≤ maxLen := by unfold maxLen; omega
        have f2 : (S.length + 1) * 32 ≤ 140737488355328 := by omega
        have f3 := B6.out.size
        have EL : Hid ((S ++ [x]).length = S.length + 1) := hide (by simp)
        clear B2 R2 X2
        go_wp2_with (at_builtin; refine wpList_append_own _ rfl _ _ 40 rfl w.heap.size 54 i0 (.agg #[.string ⟨#[]⟩, .int .i64 0, .int .i64 0]) 3 32 Tryz.underlying40 hi0 hz0 hz1 hz2 rfl (by decide) _ S.length (flatItm S) rfl R6.out ⟨w2.heap.size, 0, none⟩ 1 1 [.string x.nm, .int .i64 x.am, .int .i64 x.pr] rfl rfl NW.out f4 f1 f2 f3 ?_; intro v5 w6 hown5 hgrow hor)
        have B7 := B6.out.grown hgrow B6.out.size (fun j hj => (R6.out.lt j hj).1)
        have HZ : Hid (Below w.heap.size w w6 ∧ w6.ownsRow w.heap.size 54 3 v5 (mgS (l.take (k + 1))).length (flatItm (mgS (l.take (k + 1))))) := hide ⟨B7, by rw [EN.out, flatItm_append, EL.out]; exact hown5⟩
        clear hown5 hgrow hor B7 B6 R6 EN
        go_roundw
        case rel => exact ⟨k + 1, by omega, by go_num, HZ⟩
        case measure => simp [intOf]; omega
      | some j =>
        have ei : idxM (same x) S = j := by unfold idxM; rw [hf]
        rw [ei]
        obtain ⟨hj, ea⟩ := addM_some hf
        have EN : Hid (mgS (l.take (k + 1)) = S.set j ⟨S[j].nm, S[j].am + x.am, S[j].pr⟩) := hide (by rw [TKk.out, ea])
        obtain ⟨g, cur, rfl, hg, hB, hc⟩ := row_blk R2.out (by omega)
        obtain ⟨d0, d1, d2⟩ := flatItm_at S j hj
        have d1' := (hB.cell (j * 3 + 1)).trans (hc _ _ d1)
        have sb := SAk.out _ (List.getElem_mem hj)
        have q1 : IntKind.i64.wrap (S[j].am + x.am) = S[j].am + x.am := IntWalk.i64_in _ (by omega)
        have j0 : (0 : Int) ≤ (j : Int) := by omega
        have j1 : (j : Int) < (S.length : Int) := by omega
        have j2 : ¬ (j : Int) < 0 := by omega
        have FS := hide (flatItm_set S j hj (S[j].am + x.am))
        have hgl := hB.lt
        have HBB := hide hB
        clear hf ei TKk ea d0 d1 d2 hc hB
        generalize S[j].am = sa at *
        generalize S[j].nm = sn at *
        generalize S[j].pr = sp at *
        have NE : Nonempty (OwnW w2 []) := ⟨⟨_, Own.start w2⟩⟩
        have XC := fun z : OwnW w2 [] => (X2.out.below z.own.1 hl2).rules
        have DC := fun z : OwnW w2 [] => (z.own.1.cell (p := ⟨g, j * 3 + 1, none⟩) hgl).trans d1'
        have DF := fun z : OwnW w2 [] => (HBB.out.below z.own.1 hgl).frozen (j * 3 + 1)
        go_upto_region 8 with (fail)
        refine wp_region_own_tail (w := w2) (L := []) 10 (by kernel_rfl) (by kernel_rfl) (Own.start w2) ?_
        simp only [List.take_succ_cons, List.take_zero, List.drop_succ_cons, List.drop_zero]
        repeat (go_big_quiet_step (fail))
        refine wpQuiet_nil ?_
        rintro W3 ⟨⟨W3, HO⟩, rfl⟩
        have B3 := hide (below_via B2.out B2.out.size HO.1)
        have R3 := hide (row_below R2.out HO.1)
        have K3 := hide (HBB.out.below HO.1 hgl)
        have hr2 := K3.out.frozen (j * 3 + 1)
        have hr3 := (HO.1.cell (p := ⟨g, j * 3 + 1, none⟩) hgl).trans d1'
        have ELN : Hid ((S.set j ⟨sn, sa + x.am, sp⟩).length = S.length) := hide (by simp)
        have HZ : Hid (Below w.heap.size w (W3.setCell ⟨g, j * 3 + 1, none⟩ (.int .i64 (sa + x.am))) ∧ (W3.setCell ⟨g, j * 3 + 1, none⟩ (.int .i64 (sa + x.am))).ownsRow w.heap.size 54 3 (.slice (some ⟨g, 0, none⟩) S.length c4) (mgS (l.take (k + 1))).length (flatItm (mgS (l.take (k + 1))))) :=
          hide ⟨below_set B3.out hg _, by rw [EN.out, ELN.out, ← FS.out]; exact row_put R3.out (j * 3 + 1) _⟩
        clear B3 R3 K3 NE XC DC DF HO B2 R2 X2 hr d1' HBB EN FS ELN
        go_wp2
        go_roundw
        case rel => exact ⟨k + 1, by omega, by go_num, HZ⟩
        case measure => simp [intOf]; omega
    · obtain rfl : k = l.length := by omega
      have g1 : decide (l.length < l.length) = false := decide_eq_false (by omega)
      have SNk := hide (SN.out l.length)
      have SLk := SL.out l.length
      rw [TA.out] at HY SNk SLk
      have EE : Hid (mgE l = if (mgS l).any outB = true then 5 else 0) := hide rfl
      have EL : Hid (mgL l = if mgE l = 0 then (mgS l).filter (fun x => decide (x.am ≠ 0)) else []) := hide rfl
      clear SN SL SA IT TK TA IX
      generalize mgS l = S at *
      generalize mgE l = E at *
      generalize mgL l = ML at *
      obtain ⟨A4, c4, e4, IS⟩ := ItmSl.of_row HY.out.2 SNk.out
      have e4 : _ = Value.slice A4 S.length c4 := e4
      subst e4
      obtain ⟨w1, rfl⟩ : ∃ z, z = wr := ⟨_, rfl⟩
      have HB0 := hide HY.out.1
      have HIS := hide IS
      clear HY IS
      go_wp2
      have XH := hide (And.intro (Below.refl w1.heap.size w1) (World.ownsRow_nil w1 w1.heap.size 54 3))
      have wl0 := HB0.out.size
      go_loopw [8, 39] (fun v8 v39 wr => ∃ k : Nat, k ≤ S.length ∧ v39 = .int .i64 (k : Int) ∧ Hid (Below w1.heap.size w1 wr ∧ ∃ L : List Itm, L = (S.take k).filter (fun x => decide (x.am ≠ 0)) ∧ wr.ownsRow w1.heap.size 54 3 v8 L.length (flatItm L)) ∧ Hid (∀ i (h : i < S.length), i < k → outB S[i] = false)) (fun _ v _ => S.length - (intOf v).toNat)
      case atStart => exact ⟨0, by omega, rfl, hide ⟨XH.out.1, [], rfl, XH.out.2⟩, hide (fun _ _ h => by omega)⟩
      case round =>
        clear XH
        obtain ⟨k, hk, rfl, HY, HN⟩ := hrel
        by_cases hlt : k < S.length
        · have g1 : decide (k < S.length) = true := decide_eq_true hlt
          have g2 : (0 : Int) ≤ (k : Int) := by omega
          have g3 : (k : Int) < (S.length : Int) := by omega
          obtain ⟨b, off, rfl, hbl, hat⟩ := HIS.out.2 (by omega)
          obtain ⟨c0, c1, c2⟩ := hat k hlt
          replace c0 := (HY.out.1.cell (p := ⟨b, off + k * 3, none⟩) hbl).trans c0
          replace c1 := (HY.out.1.cell (p := ⟨b, off + k * 3 + 1, none⟩) hbl).trans c1
          replace c2 := (HY.out.1.cell (p := ⟨b, off + k * 3 + 2, none⟩) hbl).trans c2
          have hout : outB S[k] = !(decide (-1073741824 ≤ S[k].am) && decide (S[k].am ≤ 1073741824)) := rfl
          have HNK := hide (fun (h : outB S[k] = false) i (hi : i < S.length) (hik : i < k + 1) => (show outB S[i] = false by
            by_cases e : i = k
            · subst e; exact h
            · exact HN.out i hi (by omega)))
          have HYES := hide (fun (h : outB S[k] = true) => (show S.any outB = true from List.any_eq_true.2 ⟨_, List.getElem_mem hlt, h⟩))
          have TK := hide (show S.take (k + 1) = S.take k ++ [S[k]] from List.take_succ_eq_append_getElem hlt)
          have nx := SNk.out k hlt
          have wl := HY.out.1.size
          have BN := hide (B1.out S[k].am)
          rw [← Bool.not_not (decide (-1073741824 ≤ S[k].am) && decide (S[k].am ≤ 1073741824)), ← hout] at BN
          clear hout hat
          generalize S[k] = x at *
          have nb : ¬ b = wr.heap.size := by omega
          have hlw : wr.heap.size < (wr.alloc (.cells #[.string x.nm, .int .i64 x.am, .int .i64 x.pr] 54)).heap.size := by simp
          have HBX := hide (show Blk (wr.alloc (.cells #[.string x.nm, .int .i64 x.am, .int .i64 x.pr] 54)) wr.heap.size 54 #[.string x.nm, .int .i64 x.am, .int .i64 x.pr] from Blk.new _ _ _)
          have BA := hide (HY.out.1.alloc wl (.cells #[.string x.nm, .int .i64 x.am, .int .i64 x.pr] 54))
          obtain ⟨L, hL, hrow⟩ := HY.out.2
          have HRA := hide (hrow.alloc (.cells #[.string x.nm, .int .i64 x.am, .int .i64 x.pr] 54))
          clear hrow HY
          generalize hob : outB x = ob at *
          have hr := HBX.out.rules
          cases ob with
          | true =>
            have E5 : E = 5 := by rw [EE.out, if_pos (HYES.out rfl)]
            have M0 : ML = [] := by rw [EL.out, E5]; rfl
            have HP := hide (show BilPost ML E w (.returned (.tuple #[.slice none 0 0, .int .i64 5])) (wr.alloc (.cells #[.string x.nm, .int .i64 x.am, .int .i64 x.pr] 54)) from ⟨below_via HB0.out wl0 BA.out, none, 0, by rw [M0, E5]; rfl, by rw [M0]; exact ItmSl.nil _ _⟩)
            clear E5 M0 EE EL HNK HYES TK hL HRA HBX BA
            go_wp2_with fail
            refine (BN.out _).mono ?_
            rintro e w' ⟨rfl, rfl⟩
            go_wp2
            go_ret2
            exact HP.out
          | false =>
            have HN2 := hide (HNK.out rfl)
            clear HNK HYES
            by_cases hz : x.am = 0
            · have z1 : (x.am != 0) = false := by simp [hz]
              have HZ : Hid (Below w1.heap.size w1 (wr.alloc (.cells #[.string x.nm, .int .i64 x.am, .int .i64 x.pr] 54)) ∧ ∃ L : List Itm, L = (S.take (k + 1)).filter (fun x => decide (x.am ≠ 0)) ∧ (wr.alloc (.cells #[.string x.nm, .int .i64 x.am, .int .i64 x.pr] 54)).ownsRow w1.heap.size 54 3 u8 L.length (flatItm L)) :=
                hide ⟨BA.out, L, by rw [TK.out, List.filter_append, ← hL]; simp [hz], HRA.out⟩
              clear hz TK hL HRA HBX BA hob
              go_wp2_with fail
              refine (BN.out _).mono ?_
              rintro e w' ⟨rfl, rfl⟩
              go_wp2
              go_roundw
              case rel => exact ⟨k + 1, by omega, by go_num, HZ, HN2⟩
              case measure => simp [intOf]; omega
            · have z1 : (x.am != 0) = true := by simp [hz]
              have EN : Hid (L ++ [x] = (S.take (k + 1)).filter (fun x => decide (x.am ≠ 0))) := hide (by rw [TK.out, List.filter_append, ← hL]; simp [hz])
              have LL : L.length ≤ 1000 := by rw [hL]; exact Nat.le_trans (List.length_filter_le _ _) (by rw [List.length_take]; omega)
              have B6 := hide (BA.out.alloc BA.out.size (.cells #[.string x.nm, .int .i64 x.am, .int .i64 x.pr] 54))
              have R6 := hide (HRA.out.alloc (.cells #[.string x.nm, .int .i64 x.am, .int .i64 x.pr] 54))
              have NW := hide (World.news_of_block (cs := #[.string x.nm, .int .i64 x.am, .int .i64 x.pr]) (t := 54) (fr := (0, 0)) (heap_alloc_new (wr.alloc (.cells #[.string x.nm, .int .i64 x.am, .int .i64 x.pr] 54)) _))
              rw [World.size_alloc] at NW
              have f4 : ∀ y ∈ [Value.string x.nm, .int .i64 x.am, .int .i64 x.pr], y.oneCell' = true := by simp [Value.oneCell']
              have f1 : L.length + 1 ≤ maxLen := by unfold maxLen; omega
              have f2 : (L.length + 1) * 32 ≤ 140737488355328 := by omega
              have f3 := B6.out.size
              have EL2 : Hid ((L ++ [x]).length = L.length + 1) := hide (by simp)
              clear hz TK hL HRA HBX BA hob
              go_wp2_with fail
              refine (BN.out _).mono ?_
              rintro e w' ⟨rfl, rfl⟩
              go_wp2_with (at_builtin; refine wpList_append_own _ rfl _ _ 40 rfl w1.heap.size 54 i0 (.agg #[.string ⟨#[]⟩, .int .i64 0, .int .i64 0]) 3 32 Tryz.underlying40 hi0 hz0 hz1 hz2 rfl (by decide) _ L.length (flatItm L) rfl R6.out ⟨wr.heap.size + 1, 0, none⟩ 1 1 [.string x.nm, .int .i64 x.am, .int .i64 x.pr] rfl rfl NW.out f4 f1 f2 f3 ?_; intro v5 w6 hown5 hgrow hor)
              have B7 := B6.out.grown hgrow B6.out.size (fun j hj => (R6.out.lt j hj).1)
              have HZ : Hid (Below w1.heap.size w1 w6 ∧ ∃ L : List Itm, L = (S.take (k + 1)).filter (fun x => decide (x.am ≠ 0)) ∧ w6.ownsRow w1.heap.size 54 3 v5 L.length (flatItm L)) := hide ⟨B7, _, EN.out, by rw [flatItm_append, EL2.out]; exact hown5⟩
              clear hown5 hgrow hor B7 B6 R6 EN EL2
              go_roundw
              case rel => exact ⟨k + 1, by omega, by go_num, HZ, HN2⟩
              case measure => simp [intOf]; omega
        · obtain rfl : k = S.length := by omega
          have g1 : decide (S.length < S.length) = false := decide_eq_false (by omega)
          obtain ⟨L, hL, hrow⟩ := HY.out.2
          rw [List.take_length] at hL
          have hany : ¬ S.any outB = true := fun h => by
            obtain ⟨z, hz, ho⟩ := List.any_eq_true.1 h
            obtain ⟨i, hi, rfl⟩ := List.mem_iff_getElem.1 hz
            rw [HN.out i hi hi] at ho; cases ho
          have E0 : E = 0 := by rw [EE.out, if_neg hany]
          have ML0 : ML = L := by rw [EL.out, if_pos E0, hL]
          have NL : ∀ i (h : i < L.length), L[i].nm.size ≤ maxLen := fun i hi => by
            have hm : L[i] ∈ S := by
              have h0 := List.getElem_mem hi
              have h1 : L[i] ∈ S.filter (fun x => decide (x.am ≠ 0)) := by rw [← hL]; exact h0
              exact (List.mem_filter.1 h1).1
            obtain ⟨j, hj, e⟩ := List.mem_iff_getElem.1 hm
            rw [← e]; exact SNk.out j hj
          obtain ⟨A8, c8, e8, IS⟩ := ItmSl.of_row hrow NL
          have e8 : _ = Value.slice A8 L.length c8 := e8
          subst e8
          have HP := hide (show BilPost ML E w (.returned (.tuple #[.slice A8 L.length c8, .int .i64 0])) wr from ⟨below_via HB0.out wl0 HY.out.1, A8, c8, by rw [ML0, E0], by rw [ML0]; exact IS⟩)
          clear hrow IS HY hL E0 ML0 hany NL EE EL
          go_wp2
          go_ret2
          exact HP.out
end Go.Proofs.YtbmocghfpcfmhaaGreatDoor

namespace Go.Proofs.YtbmocghfpcfmhaaGreatDoor
open Go Go.RowKit

theorem flatItm_cell {l : List Itm} {j : Nat} {u : Value} (h : (flatItm l)[j]? = some u) : ∃ (i : Nat) (hi : i < l.length) (m : Nat), m < 3 ∧ j = i * 3 + m ∧ l[i].cs[m]? = some u := by
  induction l generalizing j with
  | nil => simp [flatItm] at h
  | cons c l ih =>
    have e : flatItm (c :: l) = c.cs ++ flatItm l := rfl
    rw [e] at h
    by_cases hj : j < 3
    · rw [List.getElem?_append_left (by simpa using hj)] at h
      exact ⟨0, by simp, j, hj, by simp, h⟩
    · rw [List.getElem?_append_right (by simp; omega)] at h
      obtain ⟨i, hi, m, hm, hjm, hu⟩ := ih h
      refine ⟨i + 1, by simpa using hi, m, hm, ?_, by simpa using hu⟩
      simp at hjm; omega
theorem ItmSl.cells {w : World} {b off : Nat} {l : List Itm} (hat : ∀ i (h : i < l.length), ItmAt w b (off + i * 3) l[i]) : ∀ j u, (flatItm l)[j]? = some u → w.cell? ⟨b, off + j, none⟩ = some u := by
  intro j u hj
  obtain ⟨i, hi, m, hm, rfl, hu⟩ := flatItm_cell hj
  have h := hat i hi
  rw [show off + (i * 3 + m) = off + i * 3 + m by omega]
  obtain rfl | rfl | rfl : m = 0 ∨ m = 1 ∨ m = 2 := by omega
  · exact h.1.trans hu
  · exact h.2.1.trans hu
  · exact h.2.2.trans hu
/-- a copy in memory of the call's own -/
def CloneItm (l : List Itm) (w : World) (e : Ending) (w' : World) : Prop := ∃ A c, e = .returned (.slice A l.length c) ∧ w'.ownsRow w.heap.size 54 3 (.slice A l.length c) l.length (flatItm l) ∧ l.length ≤ c ∧ Below w.heap.size w w'
set_option maxHeartbeats 1000000 in
theorem cloneItm_any (l : List Itm) (A : Option Addr) (c : Nat) (w : World) (hl : ItmSl w A l) (hn : l.length ≤ 4000) :
    Calls Tryz.prog 22 #[.slice A l.length c] w (CloneItm l w) := by
  obtain ⟨i0, hi, hz0, hz1, hz2⟩ := info_parts itm_info
  cases A with
  | none =>
    have h0 : l = [] := by
      rcases Nat.eq_zero_or_pos l.length with h | h
      · exact List.eq_nil_of_length_eq_zero h
      · obtain ⟨b, off, e, _⟩ := hl.2 h; cases e
    subst h0
    have q0 : ∀ (w : World) (a : Option Addr) (n c n' c' : Nat), (binOp .eql 40 (.slice a n c) (.slice none n' c')).run Tryz.prog w = .ok (.bool a.isNone) w := fun w a n c n' c' => Lib.run_eql_slice_nil w _ _ a n c n' c' Tryz.underlying40
    go_enter Tryz.func22, Tryz.ntmps22
    go_wp2
    go_ret
    exact ⟨_, _, rfl, World.ownsRow_nil _ _ _ _, Nat.le_refl _, Below.refl _ _⟩
  | some ad =>
    have HN : Hid (∀ j u, (flatItm l)[j]? = some u → (w.alloc (.cells #[] 54)).cell? (ad.add j) = some u) := hide (fun j u hj => by
      rcases Nat.eq_zero_or_pos l.length with h | h
      · have : l = [] := List.eq_nil_of_length_eq_zero h
        subst this
        simp [flatItm] at hj
      · obtain ⟨b, off, e, hbl, hat⟩ := hl.2 h
        have e' : ad = ⟨b, off, none⟩ := by simpa using e
        subst e'
        have e : (⟨b, off, none⟩ : Addr).add j = ⟨b, off + j, none⟩ := by unfold Addr.add; split <;> simp_all
        rw [e]
        exact (((Below.refl _ w).alloc (Nat.le_refl _) (.cells #[] 54)).cell (p := ⟨b, off + j, none⟩) hbl).trans (ItmSl.cells hat j u hj))
    have fl : (flatItm l).length = l.length * 3 := flatItm_len l
    have f1 : 0 + l.length ≤ maxLen := by unfold maxLen; omega
    have f2 : (0 + l.length) * 32 ≤ 140737488355328 := by omega
    have f4 := flatItm_one l
    have f5 : w.heap.size ≤ (w.alloc (.cells #[] 54)).heap.size := by simp
    have q0 : ∀ (w : World) (a : Option Addr) (n c n' c' : Nat), (binOp .eql 40 (.slice a n c) (.slice none n' c')).run Tryz.prog w = .ok (.bool a.isNone) w := fun w a n c n' c' => Lib.run_eql_slice_nil w _ _ a n c n' c' Tryz.underlying40
    clear hl
    go_enter Tryz.func22, Tryz.ntmps22
    go_wp2_with (at_builtin; refine wpList_append_own _ rfl _ _ 40 rfl w.heap.size 54 i0 (.agg #[.string ⟨#[]⟩, .int .i64 0, .int .i64 0]) 3 32 Tryz.underlying40 hi hz0 hz1 hz2 rfl (by decide) _ _ _ rfl (World.ownsRow_made w #[] 0 (Nat.le_refl _) (Nat.zero_le _) rfl) ad l.length c (flatItm l) rfl fl HN.out f4 f1 f2 f5 ?_; intro v' w1 hown hgrow hnil)
    have HB : Below w.heap.size w w1 := ((Below.refl _ w).alloc (Nat.le_refl _) _).grown hgrow (by simp) (fun k hk => Nat.le_of_eq (Option.some.inj (show some w.heap.size = some k from hk)))
    rw [Nat.zero_add] at hown
    have HO := hide hown
    clear hown hgrow hnil f4 HN
    go_wp2
    go_ret
    obtain ⟨A, c, e, hc⟩ := row_sliceN HO.out
    subst e
    exact ⟨A, c, rfl, by simpa using HO.out, hc, HB⟩
theorem oppL_snoc (l : List Itm) (x : Itm) : oppL (l ++ [x]) = oppL l ++ [oppI x] := by simp [oppL]
def meE (l : List Itm) : Int := if vI l = true then mgE l else 1
def meL (l : List Itm) : List Itm := if vI l = true then mgL l else []
set_option maxHeartbeats 1000000 in
theorem coMerge_any (l : List Itm) (A : Option Addr) (cap : Nat) (w : World) (hl : ItmSl w A l) : Calls Tryz.prog 15 #[.slice A l.length cap] w (BilPost (meL l) (meE l) w) := by
  have V := hide (fun W h => covalid_any l A cap W h)
  unfold RetW at V
  have HL := hide hl
  cases hv : vI l with
  | false =>
    rw [hv] at V
    have E1 : meE l = 1 := by unfold meE; rw [hv]; rfl
    have M1 : meL l = [] := by unfold meL; rw [hv]; rfl
    have HP := hide (fun W (h : Below w.heap.size w W) => (show BilPost (meL l) (meE l) w (.returned (.tuple #[.slice none 0 0, .int .i64 1])) W from ⟨h, none, 0, by rw [M1, E1]; rfl, by rw [M1]; exact ItmSl.nil _ _⟩))
    clear hl hv E1 M1
    go_enter Tryz.func15, Tryz.ntmps15
    go_wp2_with fail
    refine (V.out _ HL.out).mono ?_
    rintro e w1 ⟨rfl, hb⟩
    have HQ := hide (HP.out _ hb)
    clear hb HP
    go_wp2
    go_ret2
    exact HQ.out
  | true =>
    rw [hv] at V
    obtain ⟨h1, h2⟩ := vI_iff.1 hv
    have MG := hide (fun W h => comerge_any l A cap W h h2 h1)
    have E1 : meE l = mgE l := by unfold meE; rw [if_pos hv]
    have M1 : meL l = mgL l := by unfold meL; rw [if_pos hv]
    rw [E1, M1]
    clear hl hv E1 M1 h1 h2
    unfold BilPost at MG
    generalize mgL l = L at *
    generalize mgE l = E at *
    go_enter Tryz.func15, Tryz.ntmps15
    go_wp2_with fail
    refine (V.out _ HL.out).mono ?_
    rintro e w1 ⟨rfl, hb⟩
    have B1 := hide hb
    clear hb
    go_wp2_with fail
    refine (MG.out _ (HL.out.below B1.out)).mono ?_
    rintro e w2 ⟨hb, A2, c2, rfl, hs⟩
    have HP := hide (show BilPost L E w (.returned (.tuple #[.slice A2 L.length c2, .int .i64 E])) w2 from ⟨below_via B1.out B1.out.size hb, A2, c2, rfl, hs⟩)
    clear hb hs
    go_wp2
    go_ret2
    exact HP.out
def cmE (a b : List Itm) : Int := if (vI a && vI b) = true then if 1000 < a.length + b.length then 4 else mgE (b ++ oppL a) else 1
def cmL (a b : List Itm) : List Itm := if (vI a && vI b) = true then if 1000 < a.length + b.length then [] else mgL (b ++ oppL a) else []
set_option maxHeartbeats 1000000 in
theorem compare_inv (a b : List Itm) (A B : Option Addr) (c c' : Nat) (w : World) (ha : ItmSl w A a) (hb : ItmSl w B b) (hv : (vI a && vI b) = false) : Calls Tryz.prog 17 #[.slice A a.length c, .slice B b.length c'] w (BilPost (cmL a b) (cmE a b) w) := by
  have V1 := hide (fun W h => covalid_any a A c W h)
  have V2 := hide (fun W h => covalid_any b B c' W h)
  unfold RetW at V1 V2
  have H1 := hide ha
  have H2 := hide hb
  have E1 : cmE a b = 1 := by unfold cmE; rw [hv]; rfl
  have M1 : cmL a b = [] := by unfold cmL; rw [hv]; rfl
  have HP := hide (fun W (h : Below w.heap.size w W) => (show BilPost (cmL a b) (cmE a b) w (.returned (.tuple #[.slice none 0 0, .int .i64 1])) W from ⟨h, none, 0, by rw [M1, E1]; rfl, by rw [M1]; exact ItmSl.nil _ _⟩))
  generalize vI a = b1 at *
  generalize vI b = b2 at *
  have ways : b1 = false ∨ (b1 = true ∧ b2 = false) := by cases b1 <;> cases b2 <;> simp at hv ⊢
  clear ha hb hv E1 M1
  rcases ways with rfl | ⟨rfl, rfl⟩
  · go_enter Tryz.func17, Tryz.ntmps17
    go_wp2_with fail
    refine (V1.out _ H1.out).mono ?_
    rintro e w1 ⟨rfl, hb⟩
    have HQ := hide (HP.out _ hb)
    clear hb HP
    go_wp2
    go_ret2
    exact HQ.out
  · go_enter Tryz.func17, Tryz.ntmps17
    go_wp2_with fail
    refine (V1.out _ H1.out).mono ?_
    rintro e w1 ⟨rfl, hb⟩
    have B1 := hide hb
    clear hb
    go_wp2_with fail
    refine (V2.out _ (H2.out.below B1.out)).mono ?_
    rintro e w2 ⟨rfl, hb⟩
    have HQ := hide (HP.out _ (below_via B1.out B1.out.size hb))
    clear hb HP
    go_wp2
    go_ret2
    exact HQ.out
set_option maxHeartbeats 1000000 in
theorem compare_full (a b : List Itm) (A B : Option Addr) (c c' : Nat) (w : World) (ha : ItmSl w A a) (hb : ItmSl w B b) (hv : (vI a && vI b) = true) (hn : 1000 < a.length + b.length) : Calls Tryz.prog 17 #[.slice A a.length c, .slice B b.length c'] w (BilPost (cmL a b) (cmE a b) w) := by
  have V1 := hide (fun W h => covalid_any a A c W h)
  have V2 := hide (fun W h => covalid_any b B c' W h)
  unfold RetW at V1 V2
  have H1 := hide ha
  have H2 := hide hb
  have E1 : cmE a b = 4 := by unfold cmE; rw [if_pos hv, if_pos hn]
  have M1 : cmL a b = [] := by unfold cmL; rw [if_pos hv, if_pos hn]
  have HP := hide (fun W (h : Below w.heap.size w W) => (show BilPost (cmL a b) (cmE a b) w (.returned (.tuple #[.slice none 0 0, .int .i64 4])) W from ⟨h, none, 0, by rw [M1, E1]; rfl, by rw [M1]; exact ItmSl.nil _ _⟩))
  rw [Bool.and_eq_true] at hv
  have l1 := (vI_iff.1 hv.1).1
  have l2 := (vI_iff.1 hv.2).1
  rw [hv.1] at V1
  rw [hv.2] at V2
  have w1 : IntKind.i64.wrap ((a.length : Int) + (b.length : Int)) = (a.length : Int) + (b.length : Int) := IntWalk.i64_in _ (by omega)
  have g1 : decide (1000 < (a.length : Int) + (b.length : Int)) = true := decide_eq_true (by omega)
  clear ha hb hv E1 M1
  go_enter Tryz.func17, Tryz.ntmps17
  go_wp2_with fail
  refine (V1.out _ H1.out).mono ?_
  rintro e w1 ⟨rfl, hb⟩
  have B1 := hide hb
  clear hb
  go_wp2_with fail
  refine (V2.out _ (H2.out.below B1.out)).mono ?_
  rintro e w2 ⟨rfl, hb⟩
  have HQ := hide (HP.out _ (below_via B1.out B1.out.size hb))
  clear hb HP
  go_wp2
  go_ret2
  exact HQ.out
set_option maxRecDepth 100000 in
set_option maxHeartbeats 4000000 in
theorem compare_ok (a b : List Itm) (A B : Option Addr) (c c' : Nat) (w : World) (ha : ItmSl w A a) (hb : ItmSl w B b) (hv : (vI a && vI b) = true) (hn : ¬ 1000 < a.length + b.length) : Calls Tryz.prog 17 #[.slice A a.length c, .slice B b.length c'] w (BilPost (cmL a b) (cmE a b) w) := by
  obtain ⟨i0, hi0, hz0, hz1, hz2⟩ := info_parts itm_info
  have V1 := hide (fun W h => covalid_any a A c W h)
  have V2 := hide (fun W h => covalid_any b B c' W h)
  have CL := hide (fun W h => cloneItm_any b B c' W h (by omega))
  unfold RetW at V1 V2
  have H1 := hide ha
  have H2 := hide hb
  have E1 : cmE a b = mgE (b ++ oppL a) := by unfold cmE; rw [if_pos hv, if_neg hn]
  have M1 : cmL a b = mgL (b ++ oppL a) := by unfold cmL; rw [if_pos hv, if_neg hn]
  rw [E1, M1]
  rw [Bool.and_eq_true] at hv
  obtain ⟨l1, v1⟩ := vI_iff.1 hv.1
  obtain ⟨l2, v2⟩ := vI_iff.1 hv.2
  rw [hv.1] at V1
  rw [hv.2] at V2
  have LN : (b ++ oppL a).length ≤ 1000 := by simp [oppL]; omega
  have IT : ∀ x ∈ b ++ oppL a, itB x = true := fun x hx => by
    rcases List.mem_append.1 hx with h | h
    · exact v2 x h
    · obtain ⟨y, hy, rfl⟩ := List.mem_map.1 h
      exact itB_opp (v1 y hy)
  have NM : Hid (∀ i (h : i < (b ++ oppL a).length), (b ++ oppL a)[i].nm.size ≤ maxLen) := hide (fun i hi => by
    rcases List.mem_append.1 (List.getElem_mem hi) with h | h
    · obtain ⟨j, hj, e⟩ := List.mem_iff_getElem.1 h
      rw [← e]; exact hb.1.2 j hj
    · obtain ⟨y, hy, e⟩ := List.mem_map.1 h
      obtain ⟨j, hj, rfl⟩ := List.mem_iff_getElem.1 hy
      rw [← e]; exact ha.1.2 j hj)
  have MG := hide (fun A cap W h => comerge_any (b ++ oppL a) A cap W h IT LN)
  have ITA := hide (fun k (h : k < a.length) => itB_bd (v1 a[k] (List.getElem_mem h)))
  have TK := hide (fun k (h : k < a.length) => (show b ++ oppL (a.take (k + 1)) = (b ++ oppL (a.take k)) ++ [oppI a[k]] by rw [List.take_succ_eq_append_getElem h, oppL_snoc, List.append_assoc]))
  have TA : Hid (a.take a.length = a) := hide (by rw [List.take_length])
  have LT := hide (fun k => (show (b ++ oppL (a.take k)).length ≤ 1000 by simp [oppL]; omega))
  have w1 : IntKind.i64.wrap ((a.length : Int) + (b.length : Int)) = (a.length : Int) + (b.length : Int) := IntWalk.i64_in _ (by omega)
  have g1 : decide (1000 < (a.length : Int) + (b.length : Int)) = false := decide_eq_false (by omega)
  unfold BilPost at MG
  unfold CloneItm at CL
  clear ha hb hv E1 M1 v1 v2 IT LN
  generalize mgL (b ++ oppL a) = ML at *
  generalize mgE (b ++ oppL a) = E at *
  go_enter Tryz.func17, Tryz.ntmps17
  go_wp2_with fail
  refine (V1.out _ H1.out).mono ?_
  rintro e w1 ⟨rfl, hb⟩
  have B1 := hide hb
  clear hb
  go_wp2_with fail
  refine (V2.out _ (H2.out.below B1.out)).mono ?_
  rintro e w2 ⟨rfl, hb⟩
  have B2 := hide (below_via B1.out B1.out.size hb)
  clear hb B1
  go_wp2_with fail
  refine (CL.out _ (H2.out.below B2.out)).mono ?_
  rintro e w3 ⟨A3, c3, rfl, hrow, hc3, hb⟩
  have XH := hide (And.intro hb (show w3.ownsRow w2.heap.size 54 3 (.slice A3 b.length c3) (b ++ oppL (a.take 0)).length (flatItm (b ++ oppL (a.take 0))) by simpa [oppL] using hrow))
  have wl0 := B2.out.size
  clear hb hrow CL V1 V2
  go_wp2
  go_loopw [6, 29] (fun v6 v29 wr => ∃ k : Nat, k ≤ a.length ∧ v29 = .int .i64 (k : Int) ∧ Hid (Below w2.heap.size w2 wr ∧ wr.ownsRow w2.heap.size 54 3 v6 (b ++ oppL (a.take k)).length (flatItm (b ++ oppL (a.take k))))) (fun _ v _ => a.length - (intOf v).toNat)
  case atStart => exact ⟨0, by omega, rfl, XH⟩
  case round =>
    clear XH
    obtain ⟨k, hk, rfl, HY⟩ := hrel
    by_cases hlt : k < a.length
    · have g2 : decide (k < a.length) = true := decide_eq_true hlt
      have g3 : (0 : Int) ≤ (k : Int) := by omega
      have g4 : (k : Int) < (a.length : Int) := by omega
      obtain ⟨p, off, rfl, hbl, hat⟩ := H1.out.2 (by omega)
      obtain ⟨c0, c1, c2⟩ := hat k hlt
      have B3 := hide (below_via B2.out wl0 HY.out.1)
      replace c0 := (B3.out.cell (p := ⟨p, off + k * 3, none⟩) hbl).trans c0
      replace c1 := (B3.out.cell (p := ⟨p, off + k * 3 + 1, none⟩) hbl).trans c1
      replace c2 := (B3.out.cell (p := ⟨p, off + k * 3 + 2, none⟩) hbl).trans c2
      have TKk := hide (TK.out k hlt)
      have LTk := LT.out k
      obtain ⟨⟨i1, i2⟩, -, -⟩ := ITA.out k hlt
      have eo : Hid (oppI a[k] = ⟨a[k].nm, -a[k].am, a[k].pr⟩) := hide rfl
      rw [eo.out] at TKk
      clear eo hat
      generalize a[k] = x at *
      have n1 : IntKind.i64.wrap (-x.am) = -x.am := IntWalk.i64_in _ (by omega)
      have n2 : IntKind.i64.wrap (0 - x.am) = -x.am := by rw [Int.zero_sub]; exact n1
      obtain ⟨S, hS⟩ : ∃ S, S = b ++ oppL (a.take k) := ⟨_, rfl⟩
      rw [← hS] at HY TKk LTk
      have wl := HY.out.1.size
      have nb : ¬ p = wr.heap.size := by have := B3.out.size; omega
      have B6 := hide ((HY.out.1.alloc wl (.cells #[.string x.nm, .int .i64 (-x.am), .int .i64 x.pr] 54)).alloc (by rw [World.size_alloc]; omega) (.cells #[.string x.nm, .int .i64 (-x.am), .int .i64 x.pr] 54))
      have R6 := hide ((HY.out.2.alloc (.cells #[.string x.nm, .int .i64 (-x.am), .int .i64 x.pr] 54)).alloc (.cells #[.string x.nm, .int .i64 (-x.am), .int .i64 x.pr] 54))
      have NW := hide (World.news_of_block (cs := #[.string x.nm, .int .i64 (-x.am), .int .i64 x.pr]) (t := 54) (fr := (0, 0)) (heap_alloc_new (wr.alloc (.cells #[.string x.nm, .int .i64 (-x.am), .int .i64 x.pr] 54)) _))
      rw [World.size_alloc] at NW
      have f4 : ∀ y ∈ [Value.string x.nm, .int .i64 (-x.am), .int .i64 x.pr], y.oneCell' = true := by simp [Value.oneCell']
      have f1 : S.length + 1 ≤ maxLen := by unfold maxLen; omega
      have f2 : (S.length + 1) * 32 ≤ 140737488355328 := by omega
      have f3 := B6.out.size
      have EL : Hid ((S ++ [(⟨x.nm, -x.am, x.pr⟩ : Itm)]).length = S.length + 1) := hide (by simp)
      clear HY hS
      go_wp2_with (at_builtin; refine wpList_append_own _ rfl _ _ 40 rfl w2.heap.size 54 i0 (.agg #[.string ⟨#[]⟩, .int .i64 0, .int .i64 0]) 3 32 Tryz.underlying40 hi0 hz0 hz1 hz2 rfl (by decide) _ S.length (flatItm S) rfl R6.out ⟨wr.heap.size + 1, 0, none⟩ 1 1 [.string x.nm, .int .i64 (-x.am), .int .i64 x.pr] rfl rfl NW.out f4 f1 f2 f3 ?_; intro v5 w6 hown5 hgrow hor)
      have B7 := B6.out.grown hgrow B6.out.size (fun j hj => (R6.out.lt j hj).1)
      have HZ : Hid (Below w2.heap.size w2 w6 ∧ w6.ownsRow w2.heap.size 54 3 v5 (b ++ oppL (a.take (k + 1))).length (flatItm (b ++ oppL (a.take (k + 1))))) := hide ⟨B7, by rw [TKk.out, flatItm_append, EL.out]; exact hown5⟩
      clear hown5 hgrow hor B7 B6 R6 TKk EL
      go_roundw
      case rel => exact ⟨k + 1, by omega, by go_num, HZ⟩
      case measure => simp [intOf]; omega
    · obtain rfl : k = a.length := by omega
      have g2 : decide (a.length < a.length) = false := decide_eq_false (by omega)
      rw [TA.out] at HY
      generalize b ++ oppL a = S at *
      obtain ⟨A4, c4, e4, IS⟩ := ItmSl.of_row HY.out.2 NM.out
      have e4 : _ = Value.slice A4 S.length c4 := e4
      subst e4
      have B3 := hide (below_via B2.out wl0 HY.out.1)
      have MGk := hide (MG.out A4 c4 _ IS)
      clear HY IS
      go_wp2_with fail
      refine MGk.out.mono ?_
      rintro e w6 ⟨hb, A2, c2, rfl, hs⟩
      have HP := hide (show BilPost ML E w (.returned (.tuple #[.slice A2 ML.length c2, .int .i64 E])) w6 from ⟨below_via B3.out B3.out.size hb, A2, c2, rfl, hs⟩)
      clear hb hs
      go_wp2
      go_ret2
      exact HP.out
theorem coCompare_any (a b : List Itm) (A B : Option Addr) (c c' : Nat) (w : World) (ha : ItmSl w A a) (hb : ItmSl w B b) : Calls Tryz.prog 17 #[.slice A a.length c, .slice B b.length c'] w (BilPost (cmL a b) (cmE a b) w) := by
  cases hv : (vI a && vI b) with
  | false => exact compare_inv a b A B c c' w ha hb hv
  | true =>
    by_cases hn : 1000 < a.length + b.length
    · exact compare_full a b A B c c' w ha hb hv hn
    · exact compare_ok a b A B c c' w ha hb hv hn
end Go.Proofs.YtbmocghfpcfmhaaGreatDoor
