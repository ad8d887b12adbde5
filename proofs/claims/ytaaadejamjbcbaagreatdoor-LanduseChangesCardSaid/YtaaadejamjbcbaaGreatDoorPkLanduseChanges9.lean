/- The reference's Change: the surface with another class, and how many faces; nothing that was there is turned. -/
import Derived.Test.YtaaadejamjbcbaaGreatDoorPkLanduseChanges3
import Derived.Test.YtaaadejamjbcbaaGreatDoorPkLanduseChanges8
namespace Go.Proofs.YtaaadejamjbcbaaGreatDoor
open Go Go.RowKit

def RChgPost (ss : List Spt) (fs : List Fce) (frm tk : Int) (w : World) (e : Ending) (w' : World) : Prop :=
  Below w.heap.size w w' ∧ ∃ B1 d1 B2 d2, e = .returned (.tuple #[.agg #[.slice B1 ss.length d1, .slice B2 fs.length d2], .int .i64 (chN frm fs : Nat)]) ∧ MshSl w' ⟨ss, fs.map (chf frm tk)⟩ ⟨B1, d1, B2, d2⟩ ∧ ss.length ≤ d1 ∧ fs.length ≤ d2
set_option maxRecDepth 100000 in
set_option maxHeartbeats 8000000 in
theorem rchg_ok (ss : List Spt) (fs : List Fce) (A1 A2 : Option Addr) (c1 c2 : Nat) (frm tk : Int) (w : World) (hm : MshSl w ⟨ss, fs⟩ ⟨A1, c1, A2, c2⟩) (h1 : ss.length ≤ 2000) (h2 : fs.length ≤ 4000) (hk : 0 ≤ tk ∧ tk ≤ 15) :
    Calls Tryz.prog 11 #[.agg #[.slice A1 ss.length c1, .slice A2 fs.length c2], .int .i64 frm, .int .i64 tk] w (RChgPost ss fs frm tk w) := by
  have X := ((Own.start w).alloc #[.slice A1 ss.length c1, .slice A2 fs.length c2] 25).alloc #[.slice none 0 0, .slice none 0 0] 25
  simp only [World.size_alloc] at X
  have HMP := hide hm
  have CP := hide (mrcopy_any ss fs A1 A2 c1 c2 _ (hm.below X.1) (by omega) h2)
  unfold CpyPost at CP
  have HK := hide (And.intro hk (And.intro h1 h2))
  have hr := X.r2
  clear hm h1 h2 hk
  go_enter Tryz.func11, Tryz.ntmps11
  go_wp2_with fail
  refine CP.out.mono ?_
  rintro e w1 ⟨B1, d1, B2, d2, rfl, hc1, hc2, hb, q1, q2⟩
  have hs1 : w.heap.size ≤ ((w.alloc (.cells #[.slice A1 ss.length c1, .slice A2 fs.length c2] 25)).alloc (.cells #[.slice none 0 0, .slice none 0 0] 25)).heap.size := by simp; omega
  have Q1 := hide (row_baseM q1 hs1)
  have Q2 := hide (row_baseM q2 hs1)
  have hb9 : w.heap.size + 1 < w1.heap.size := (X.to hb).r2.1.2.2
  have HC : Hid (Cg w (w1.alloc (.cells #[.slice B1 ss.length d1, .slice B2 fs.length d2] 25)) [(w1.heap.size, 25, #[.slice B1 ss.length d1, .slice B2 fs.length d2]), (w.heap.size + 1, 25, #[.slice none 0 0, .slice none 0 0]), (w.heap.size, 25, #[.slice A1 ss.length c1, .slice A2 fs.length c2])] (.slice B1 ss.length d1) ss (.slice B2 fs.length d2) fs) := hide ⟨(X.to hb).alloc _ _, Q1.out.alloc _, Q2.out.alloc _⟩
  clear hr hb q1 q2 Q1 Q2 CP X hs1
  have e0 : chL frm tk fs 0 = fs := by simp [chL]
  have HC0 : Hid (Cg w (w1.alloc (.cells #[.slice B1 ss.length d1, .slice B2 fs.length d2] 25)) [(w1.heap.size, 25, #[.slice B1 ss.length d1, .slice B2 fs.length d2]), (w.heap.size + 1, 25, #[.slice none 0 0, .slice none 0 0]), (w.heap.size, 25, #[.slice A1 ss.length c1, .slice A2 fs.length c2])] (.slice B1 ss.length d1) ss (.slice B2 fs.length d2) (chL frm tk fs 0)) := hide (by rw [e0]; exact HC.out)
  have fl : fs.length ≤ 4000 := HK.out.2.2
  clear e0 HC
  go_wp2
  generalize hb9' : w1.heap.size = b9 at *
  clear hb9'
  go_loopw [9, 10] (fun v9 v10 wr => ∃ i : Nat, i ≤ fs.length ∧ v10 = .int .i64 i ∧ v9 = .int .i64 (chN frm (fs.take i) : Nat) ∧ Hid (Cg w wr [(b9, 25, #[.slice B1 ss.length d1, .slice B2 fs.length d2]), (w.heap.size + 1, 25, #[.slice none 0 0, .slice none 0 0]), (w.heap.size, 25, #[.slice A1 ss.length c1, .slice A2 fs.length c2])] (.slice B1 ss.length d1) ss (.slice B2 fs.length d2) (chL frm tk fs i))) (fun _ v10 _ => fs.length - (intOf v10).toNat)
  case atStart => exact ⟨0, Nat.zero_le _, rfl, rfl, HC0⟩
  case round =>
    obtain ⟨i, hi, rfl, rfl, HC⟩ := hrel
    clear HC0
    by_cases hlt : i < fs.length
    · rcases HC.out.r2.2 with ⟨e, _⟩ | ⟨g, cap, cur, e, hg, hcell, _⟩
      · exfalso
        injection e with _ e _
        omega
      injection e with e1 e2 e3
      subst e1
      have KC := HC.out.r2.cells (g := g) rfl (i * 4 + 3) (.int .i64 fs[i].k) (by rw [(flatFce_at _ i (by rw [chL_len]; exact hlt)).2.2.2, chL_at hlt])
      rw [add_zero_off] at KC
      have BK : Blk wr g 65 cur := hcell
      have FR := BK.frozen (i * 4 + 3)
      have gl := BK.lt
      have CS := hide (fun u => HC.out.set (chL_len _ _ _ _) (by simp) i (by rw [chL_len]; exact hlt) u)
      have CN := hide (chN_s (frm := frm) hlt)
      have cn := chN_le frm (fs.take i)
      have ct : (fs.take i).length ≤ i := List.length_take_le _ _
      have YES := hide (fun (h : fs[i].k = frm) => chL_yes (tk := tk) hlt h)
      have NO := hide (fun (h : fs[i].k ≠ frm) => chL_no (tk := tk) hlt h)
      have CA := hide (chL_at (frm := frm) (tk := tk) hlt)
      have i0 : (0 : Int) ≤ (i : Int) := by omega
      have i1 : (i : Int) < (fs.length : Int) := by omega
      have d11 : decide (i < fs.length) = true := decide_eq_true hlt
      have hr := HC.out.own.r1
      clear e2 e3 BK hcell hg
      by_cases hk : fs[i].k = frm
      · have q : (fs[i].k == frm) = true := by simpa using hk
        have E1 := hide (YES.out hk)
        have E2 : Hid (chN frm (fs.take (i + 1)) = chN frm (fs.take i) + 1) := hide (by rw [CN.out, if_pos hk])
        have HK2 := hide hk
        clear YES NO CN hk
        generalize chN frm (fs.take i) = n at *
        generalize hfk : fs[i].k = fk at *
        clear hfk
        go_wp2
        go_roundw
        case rel =>
          refine ⟨i + 1, by omega, by go_num, by rw [E2.out]; go_num, ?_⟩
          rw [← E1.out]
          have := CS.out tk
          rw [CA.out] at this
          exact hide this
        case measure => simp [intOf]; omega
      · have q : (fs[i].k == frm) = false := by simpa using hk
        have E1 := hide (NO.out hk)
        have E2 : Hid (chN frm (fs.take (i + 1)) = chN frm (fs.take i)) := hide (by rw [CN.out, if_neg hk]; rfl)
        clear YES NO CN hk CA CS
        generalize chN frm (fs.take i) = n at *
        generalize hfk : fs[i].k = fk at *
        clear hfk
        go_wp2
        go_roundw
        case rel => exact ⟨i + 1, by omega, by go_num, by rw [E2.out], by rw [← E1.out]; exact HC⟩
        case measure => simp [intOf]; omega
    · obtain rfl : i = fs.length := by omega
      have hr := HC.out.own.r3
      have n1 : ¬ b9 = w.heap.size + 1 := by omega
      have n2 : ¬ w.heap.size + 1 = b9 := by omega
      have E2 : Hid (chN frm (fs.take fs.length) = chN frm fs) := hide (by rw [List.take_length])
      have FIN : Hid (∀ u1 u2, MshSl ((wr.setCell ⟨w.heap.size + 1, 0, none⟩ u1).setCell ⟨w.heap.size + 1, 1, none⟩ u2) ⟨ss, fs.map (chf frm tk)⟩ ⟨B1, d1, B2, d2⟩ ∧ Below w.heap.size w ((wr.setCell ⟨w.heap.size + 1, 0, none⟩ u1).setCell ⟨w.heap.size + 1, 1, none⟩ u2)) := hide (fun u1 u2 => by
        have O := HC.out.own.swap
        have B0 : Blk wr (w.heap.size + 1) 25 #[.slice none 0 0, .slice none 0 0] := O.2 (w.heap.size + 1, _, _) (by simp)
        have B1' := B0.set_ 0 u1
        have r1 := row_set (row_set HC.out.r1 B0 (by decide) 0 u1) B1' (by decide) 1 u2
        have r2 := row_set (row_set HC.out.r2 B0 (by decide) 0 u1) B1' (by decide) 1 u2
        rw [chL_end] at r2
        obtain ⟨A, c, e, hs, _⟩ := SptSl.of_row r1 HMP.out.1.1.1 HMP.out.1.1.2
        injection e with q1 q2 q3
        subst q1
        obtain ⟨A', c', e', hs', _⟩ := FceSl.of_row r2 (by rw [List.length_map]; exact HMP.out.2.1.1) (fun j hj => by
          rw [List.getElem_map]
          have := HMP.out.2.1.2 j (by simpa using hj)
          unfold chf
          split
          · exact ⟨this.1, this.2.1, this.2.2.1, by have := HK.out.1; show i64 tk; unfold i64; omega⟩
          · exact this)
        injection e' with q1 q2 q3
        subst q1
        exact ⟨⟨hs, hs'⟩, below_set (below_set HC.out.own.1 (by omega) u1) (by omega) u2⟩)
      go_wp2
      refine bodyPost_ret (v := .tuple #[.agg #[.slice B1 ss.length d1, .slice B2 fs.length d2], .int .i64 (chN frm (fs.take fs.length) : Nat)]) (by simp [results, Tryz.results11, hr, go_sem]) rfl ⟨(FIN.out _ _).2, B1, d1, B2, d2, ?_, (FIN.out _ _).1, hc1, hc2⟩
      rw [E2.out]
end Go.Proofs.YtaaadejamjbcbaaGreatDoor
