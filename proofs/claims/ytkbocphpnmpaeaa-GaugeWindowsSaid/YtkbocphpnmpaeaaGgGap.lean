/- The program's Gaps of records: the runs of missing depths; nothing that was there is turned. -/
import Derived.Test.YtkbocphpnmpaeaaGgTot
namespace Go.Proofs.Ytkbocphpnmpaeaa
open Go.RowKit

theorem span_info17 : (Try.prog.info? 46).map (fun i => (i.zero, i.size, i.bytes)) = some (some (.agg #[.int .i64 0, .int .i64 0]), 2, 16) := by kernel_rfl
/-- a slice of spans that reads as a list of pairs -/
def PairSl (w : World) (A : Option Addr) (l : List (Int × Int)) : Prop :=
  l.length ≤ maxLen ∧ (0 < l.length → ∃ b off, A = some ⟨b, off, none⟩ ∧ b < w.heap.size ∧ ∀ i (h : i < l.length), w.cell? ⟨b, off + i * 2, none⟩ = some (.int .i64 l[i].1) ∧ w.cell? ⟨b, off + i * 2 + 1, none⟩ = some (.int .i64 l[i].2))
theorem PairSl.below {w w' : World} {A : Option Addr} {l : List (Int × Int)} (h : PairSl w A l) (hb : Below w.heap.size w w') : PairSl w' A l :=
  ⟨h.1, fun hl => by
    obtain ⟨b, off, e, hlt, hat⟩ := h.2 hl
    exact ⟨b, off, e, Nat.lt_of_lt_of_le hlt hb.size, fun i hi => ⟨(hb.cell (p := ⟨b, off + i * 2, none⟩) hlt).trans (hat i hi).1, (hb.cell (p := ⟨b, off + i * 2 + 1, none⟩) hlt).trans (hat i hi).2⟩⟩⟩
theorem PairSl.nil (w : World) (A : Option Addr) : PairSl w A [] := ⟨by simp, fun h => by simp at h⟩
/-- a row of the call's own that holds spans, read as a slice -/
theorem PairSl.of_row {w : World} {base : Nat} {e : TypeId} {v : Value} {n : Nat} {l : List (Int × Int)} (h : w.ownsRow base e 2 v n (flatP l)) (hb : l.length ≤ maxLen) : ∃ A c, v = .slice A l.length c ∧ PairSl w A l := by
  have hn : l.length = n := by have := h.1; rw [flatP_length] at this; omega
  rcases h.2 with ⟨rfl, h0⟩ | ⟨g, cap, cur, rfl, hg, hcell, hnc, _, hsz, htake⟩
  · rw [h0] at hn
    have : l = [] := List.eq_nil_of_length_eq_zero hn
    subst this
    exact ⟨none, 0, rfl, PairSl.nil w none⟩
  · subst hn
    refine ⟨some ⟨g, 0, none⟩, cap, rfl, hb, fun _ => ⟨g, 0, rfl, (Array.getElem?_eq_some_iff.1 hcell).1, fun i hi => ?_⟩⟩
    obtain ⟨k1, k2⟩ := flatP_at l i hi
    have c1 := h.cells (g := g) rfl (i * 2) _ k1
    have c2 := h.cells (g := g) rfl (i * 2 + 1) _ k2
    have ea : ∀ j, (⟨g, 0, none⟩ : Addr).add j = ⟨g, 0 + j, none⟩ := fun j => by unfold Addr.add; split <;> simp_all
    rw [ea] at c1 c2
    exact ⟨c1, c2⟩
/-- a list of spans, or an error -/
def GapPost (l : List (Int × Int)) (er : Int) (w : World) (e : Ending) (w' : World) : Prop :=
  Below w.heap.size w w' ∧ ∃ (A : Option Addr) (cap : Nat), e = .returned (.tuple #[.slice A l.length cap, .int .i64 er]) ∧ PairSl w' A l
theorem GapPost.err {er : Int} {w w' : World} (hb : Below w.heap.size w w') : GapPost [] er w (.returned (.tuple #[.slice none 0 0, .int .i64 er])) w' := ⟨hb, none, 0, rfl, PairSl.nil _ _⟩
set_option maxHeartbeats 1000000 in
theorem gaps_bad (s : Ser) (a : SerA) (w : World) (hs : SerSl w s a) (hv : vS s = false) : Calls Try.prog 18 #[s.val a] w (GapPost [] 1 w) := by
  have V := hide (fun W (h : SerSl W s a) => gvalid_any s a W h)
  rw [hv] at V
  have HS := hide hs
  have X := (Own.start w).alloc (s.cells a) 24
  clear hs hv
  have hr := X.r1
  go_enter Try.func18, Try.ntmps18
  go_wp2_with fail
  refine (V.out _ (HS.out.below X.1)).mono ?_
  rintro e w1 ⟨rfl, hb⟩
  replace X := X.to hb
  clear hb hr
  go_wp2
  exact bodyPost_ret (v := .tuple #[.slice none 0 0, .int .i64 1]) (by simp [results, Try.results18, go_sem]) rfl (GapPost.err X.1)
set_option maxRecDepth 100000 in
set_option maxHeartbeats 4000000 in
theorem gaps_in (s : Ser) (a : SerA) (w : World) (hs : SerSl w s a) (hv : vS s = true) : Calls Try.prog 18 #[s.val a] w (GapPost (gpL s.ds s.ds.length) 0 w) := by
  obtain ⟨fr, st, l⟩ := s
  obtain ⟨A, c⟩ := a
  have V := hide (fun W (h : SerSl W ⟨fr, st, l⟩ ⟨A, c⟩) => gvalid_any ⟨fr, st, l⟩ ⟨A, c⟩ W h)
  rw [hv] at V
  have v := vS_iff.1 hv
  have le : l.length ≤ 10000 := v.le
  clear hv v
  have HS := hide hs
  have X := (Own.start w).alloc #[.int .i64 fr, .int .i64 st, .slice A l.length c] 24
  clear hs
  have hr := X.r1
  obtain ⟨i0, hi0, hz0, hz1, hz2⟩ := info_parts span_info17
  show Calls Try.prog 18 #[.agg #[.int .i64 fr, .int .i64 st, .slice A l.length c]] w (GapPost (gpL l l.length) 0 w)
  go_enter Try.func18, Try.ntmps18
  go_wp2_with fail
  refine (V.out _ (HS.out.below X.1)).mono ?_
  rintro e w1 ⟨rfl, hb⟩
  replace X := X.to hb
  have HI := hide HS.out.1
  clear hb hr HS V
  have hr := X.r1
  go_wp2
  have XH := hide (And.intro X (World.ownsRow_nil w1 w.heap.size 46 2))
  clear X hr
  go_loopw [4, 5, 6, 13] (fun v4 v5 v6 v13 wr => ∃ i : Nat, i ≤ l.length ∧ v13 = .int .i64 (i : Int) ∧ Hid (Own w wr [(w.heap.size, 24, #[.int .i64 fr, .int .i64 st, .slice A l.length c])] ∧ wr.ownsRow w.heap.size 46 2 v4 (gpL l i).length (flatP (gpL l i)))) (fun _ _ _ v13 _ => l.length - (intOf v13).toNat)
  case atStart => exact ⟨0, by omega, rfl, XH⟩
  case round =>
    obtain ⟨i, hi, rfl, Y⟩ := hrel
    by_cases hlt : i < l.length
    · obtain ⟨b, off, rfl, hbl, hat⟩ := (HI.out.below Y.out.1.1).atg (show 0 < l.length by omega)
      have c0 := hat i hlt
      have hr := Y.out.1.r1
      have g0 : (0 : Int) ≤ (i : Int) := by omega
      have g1 : (i : Int) < (l.length : Int) := by omega
      have GP : Hid (gpL l (i + 1) = if l.getD i 0 = -1 then (if 0 < i ∧ l.getD (i - 1) 0 = -1 then setHi (gpL l i) i else gpL l i ++ [((i : Int), (i : Int))]) else gpL l i) := hide rfl
      have GL := hide (gpL_last l i)
      by_cases q : l.getD i 0 = -1
      rotate_left
      · have E := hide (GP.out.trans (if_neg q))
        have q1 : (l.getD i 0 != -1) = true := by simpa using q
        clear hat GP q
        generalize l.getD i 0 = d at *
        go_wp2
        go_roundw
        case rel => exact ⟨i + 1, by omega, by go_num, by rw [E.out]; exact Y⟩
        case measure => simp [intOf]; omega
      · have GP2 := hide (GP.out.trans (if_pos q))
        rw [q] at c0
        clear GP q
        by_cases i1 : 0 < i
        rotate_left
        · have E := hide (GP2.out.trans (if_neg (fun h => i1 h.1)))
          have g4 : decide ((0 : Int) < (i : Int)) = false := decide_eq_false (by omega)
          have g5 : ¬ (0 : Int) < (i : Int) := by omega
          have GL2 := GL.out.2.2.1
          clear i1 hat GP2 GL
          generalize gpL l i = L at *
          go_wp2_with (at_builtin; refine wpList_append_own _ rfl _ _ 37 rfl w.heap.size 46 i0 (.agg #[.int .i64 0, .int .i64 0]) 2 16 Try.underlying37 hi0 hz0 hz1 hz2 rfl (by decide) _ L.length (flatP L) rfl (Y.out.2.alloc (.cells #[.int .i64 (i : Int), .int .i64 (i : Int)] 46)) ⟨wr.heap.size, 0, none⟩ 1 1 [.int .i64 (i : Int), .int .i64 (i : Int)] rfl rfl (World.news_of_block (cs := #[.int .i64 (i : Int), .int .i64 (i : Int)]) (t := 46) (fr := (0, 0)) (heap_alloc_new wr _)) (by simp [Value.oneCell']) (by unfold maxLen; have := GL2; omega) (by have := GL2; omega) (by have := Y.out.1.1.size; simp; omega) ?_; intro v4 w4 hown4 hgrow _)
          have XA := Y.out.1.alloc #[.int .i64 (i : Int), .int .i64 (i : Int)] 46
          have Y5 := XA.tail.grown (Y.out.2.alloc (.cells #[.int .i64 (i : Int), .int .i64 (i : Int)] 46)) hgrow (by intro y hy; simp at hy; subst hy; show 46 ≠ 24; decide)
          have B4 := hide (And.intro Y5 hown4)
          clear Y5 XA hown4 hgrow
          go_roundw
          case rel => exact ⟨i + 1, by omega, by go_num, by rw [E.out, flatP_append, List.length_append]; exact B4⟩
          case measure => simp [intOf]; omega
        · have c1 := hat (i - 1) (by omega)
          have s1 : IntKind.i64.wrap ((i : Int) - 1) = ((i - 1 : Nat) : Int) := (IntWalk.i64_in _ (by omega)).trans (by omega)
          have g2 : (0 : Int) ≤ ((i - 1 : Nat) : Int) := by omega
          have g3 : ((i - 1 : Nat) : Int) < (l.length : Int) := by omega
          have g4 : decide ((0 : Int) < (i : Int)) = true := decide_eq_true (by omega)
          have I1 := hide i1
          clear hat i1
          by_cases q : l.getD (i - 1) 0 = -1
          · have E := hide (GP2.out.trans (if_pos ⟨I1.out, q⟩))
            obtain ⟨n1, n2⟩ := GL.out.1 I1.out q
            rw [q] at c1
            have n3 := List.length_pos_iff.2 n1
            obtain ⟨g, cap, rfl⟩ := row_form Y.out.2 n3
            have EC := hide (flatP_setHi n1 (i : Int))
            have EL := hide (setHi_length n1 (i : Int))
            have GL2 := GL.out.2.2.1
            have ne := hide n1
            clear q n1 n2 GL GP2
            generalize gpL l i = L at *
            obtain ⟨y, cz⟩ : ∃ y, wr.cell? ⟨g, (L.length - 1) * 2 + 1, none⟩ = some (.int .i64 y) := ⟨_, (Y.out.2.cellAt ((L.length - 1) * 2 + 1) (by omega)).trans (flatP_at L (L.length - 1) (by omega)).2⟩
            have fz := Y.out.2.frozenAt ((L.length - 1) * 2 + 1)
            have s2 : IntKind.i64.wrap ((L.length : Int) - 1) = ((L.length - 1 : Nat) : Int) := (IntWalk.i64_in _ (by omega)).trans (by omega)
            have h2 : (0 : Int) ≤ ((L.length - 1 : Nat) : Int) := by omega
            have h3 : ((L.length - 1 : Nat) : Int) < (L.length : Int) := by omega
            have ST := Y.out.2.stored ((L.length - 1) * 2 + 1) (.int .i64 (i : Int))
            have ST2 := hide (And.intro (Y.out.1.grown Y.out.2 ST.2 (by intro y hy; simp at hy; subst hy; show 46 ≠ 24; decide)) ST.1)
            have HL := hide GL2
            clear ST GL2 n3
            generalize hj : L.length - 1 = j at *
            have HJ := hide hj
            clear hj
            go_wp2
            go_roundw
            case rel => exact ⟨i + 1, by omega, by go_num, by rw [E.out, EL.out, ← EC.out]; exact ST2⟩
            case measure => simp [intOf]; omega
          · have E := hide (GP2.out.trans (if_neg (fun h => q h.2)))
            have q1 : (l.getD (i - 1) 0 == -1) = false := by simpa using q
            have GL2 := GL.out.2.2.1
            clear GL GP2 q
            generalize gpL l i = L at *
            generalize l.getD (i - 1) 0 = d1 at *
            go_wp2_with (at_builtin; refine wpList_append_own _ rfl _ _ 37 rfl w.heap.size 46 i0 (.agg #[.int .i64 0, .int .i64 0]) 2 16 Try.underlying37 hi0 hz0 hz1 hz2 rfl (by decide) _ L.length (flatP L) rfl (Y.out.2.alloc (.cells #[.int .i64 (i : Int), .int .i64 (i : Int)] 46)) ⟨wr.heap.size, 0, none⟩ 1 1 [.int .i64 (i : Int), .int .i64 (i : Int)] rfl rfl (World.news_of_block (cs := #[.int .i64 (i : Int), .int .i64 (i : Int)]) (t := 46) (fr := (0, 0)) (heap_alloc_new wr _)) (by simp [Value.oneCell']) (by unfold maxLen; have := GL2; omega) (by have := GL2; omega) (by have := Y.out.1.1.size; simp; omega) ?_; intro v4 w4 hown4 hgrow _)
            have XA := Y.out.1.alloc #[.int .i64 (i : Int), .int .i64 (i : Int)] 46
            have Y5 := XA.tail.grown (Y.out.2.alloc (.cells #[.int .i64 (i : Int), .int .i64 (i : Int)] 46)) hgrow (by intro y hy; simp at hy; subst hy; show 46 ≠ 24; decide)
            have B4 := hide (And.intro Y5 hown4)
            clear Y5 XA hown4 hgrow
            go_roundw
            case rel => exact ⟨i + 1, by omega, by go_num, by rw [E.out, flatP_append, List.length_append]; exact B4⟩
            case measure => simp [intOf]; omega
    · have e : i = l.length := by omega
      subst e
      have gl := (gpL_last l l.length).2.2.1
      obtain ⟨A', cap, rfl, ps⟩ := PairSl.of_row Y.out.2 (by unfold maxLen; omega)
      have LH := hide ps
      clear ps gl
      go_wp2
      exact bodyPost_ret (v := .tuple #[.slice A' (gpL l l.length).length cap, .int .i64 0]) (by simp [results, Try.results18, go_sem]) rfl ⟨Y.out.1.1, _, _, rfl, LH.out⟩
end Go.Proofs.Ytkbocphpnmpaeaa
