/- The reference's Covers (layer 19): the first duration for which a valid record exceeds a valid table; nothing that was there is turned. -/
import Derived.Test.YtjnifgheipmanaaRcCov
import Derived.Test.YtjnifgheipmanaaRcRo
import Derived.Test.YtjnifgheipmanaaItRi
import Derived.Test.YtjnifgheipmanaaOwnQ
namespace Go.Proofs.Ytjnifgheipmanaa
open Go.RowKit

def OnePost (v : Int) (w : World) (e : Ending) (w' : World) : Prop := e = .returned (.int .i64 v) ∧ Below w.heap.size w w'
theorem OnePost.mk {v v' : Int} {w w' : World} (h : v = v') (hb : Below w.heap.size w w') : OnePost v w (.returned (.int .i64 v')) w' := by subst h; exact ⟨rfl, hb⟩
set_option maxRecDepth 100000 in
set_option maxHeartbeats 8000000 in
theorem rcovers_any (T : Tab) (a : TabA) (s : Ser) (q : SerA) (y : Int) (w : World) (ht : TabSl w T a) (hs : SerSl w s q) (h1 : vT T = true) (h2 : vS s = true) (hy : inL T.ps y = true) :
    Calls Try.prog 27 #[T.val a, s.val q, .int .i64 y] w (OnePost (covI T s y) w) := by
  obtain ⟨A1, A2, A3, k1, k2, k3⟩ := a
  obtain ⟨fr, st, l⟩ := s
  obtain ⟨A, c⟩ := q
  have X := ((Own.start w).alloc #[.slice A1 T.ds.length k1, .slice A2 T.ps.length k2, .slice A3 T.rows.length k3] 25).alloc #[.int .i64 fr, .int .i64 st, .slice A l.length c] 41
  simp only [World.size_alloc] at X
  have HT := hide ht
  have HS := hide hs
  have v := of_vT h1
  have vs := vS_iff.1 h2
  have VT' := hide v
  have VV := hide vs
  have IY := hide hy
  have d1 := v.d1
  have d2 := v.d2
  have s1 : 1 ≤ st := vs.st.1
  have s0 : (st == 0) = false := by simp; omega
  have s00 : ¬ st = 0 := by omega
  have FLD : ∀ (W : World) (p r : Int), Sem.run Try.prog (Instr.field 29 (Sv p r) 0) W = .ok (.int .i64 p) W := fun W p r => by rfl
  obtain ⟨db, dof, rfl, hdb, hat⟩ := ht.1.atg (by show 0 < T.ds.length; omega)
  have HAT := hide hat
  clear hs v vs hy s1 hat ht
  have hr := X.r2
  show Calls Try.prog 27 #[.agg #[.slice (some ⟨db, dof, none⟩) T.ds.length k1, .slice A2 T.ps.length k2, .slice A3 T.rows.length k3], .agg #[.int .i64 fr, .int .i64 st, .slice A l.length c], .int .i64 y] w _
  go_enter Try.func27, Try.ntmps27
  go_wp2
  clear hr
  have XH := hide X
  clear X
  go_loopw [7] (fun v7 wr => ∃ k : Nat, k ≤ T.ds.length ∧ v7 = .int .i64 (k : Int) ∧
    Own w wr [(w.heap.size + 1, 41, #[.int .i64 fr, .int .i64 st, .slice A l.length c]), (w.heap.size, 25, #[.slice (some ⟨db, dof, none⟩) T.ds.length k1, .slice A2 T.ps.length k2, .slice A3 T.rows.length k3])] ∧
    Hid (∀ i (hi : i < T.ds.length), i < k → covP T ⟨fr, st, l⟩ y T.ds[i] = false)) (fun v7 _ => T.ds.length - (intOf v7).toNat)
  case atStart => exact ⟨0, Nat.zero_le _, rfl, XH.out, hide (fun _ _ h => by omega)⟩
  case round =>
    obtain ⟨k, hk, rfl, Y, hno⟩ := hrel
    by_cases hlt : k < T.ds.length
    · have c0 := (Y.1.cell (p := ⟨db, dof + k, none⟩) hdb).trans (HAT.out k hlt)
      have ix := inL_at VT'.out.dA hlt
      have bd := VT'.out.dB k hlt
      have eD := getD_getElem hlt
      rw [eD] at c0 ix bd
      have D := hide (fun W (h : TabSl W T ⟨some ⟨db, dof, none⟩, A2, A3, k1, k2, k3⟩) => rfdepth_any T ⟨some ⟨db, dof, none⟩, A2, A3, k1, k2, k3⟩ T.ds[k] y W h VT'.out ⟨ix, IY.out⟩)
      have L := hide (fun W => rlasts_any ⟨fr, st, l⟩ ⟨A, c⟩ T.ds[k] W VV.out.st VV.out.le (by omega))
      have LK := hide (fun (h : lastB ⟨fr, st, l⟩ T.ds[k] = true) => lastB_k (s := ⟨fr, st, l⟩) VV.out.st.1 h)
      have CP : Hid (covP T ⟨fr, st, l⟩ y T.ds[k] = (lastB ⟨fr, st, l⟩ T.ds[k] && decide (loT T T.ds[k] y < gmS ⟨fr, st, l⟩ T.ds[k]))) := hide rfl
      have FOUND := hide (fun (h : covP T ⟨fr, st, l⟩ y T.ds[k] = true) => (idxP_yes hlt (fun i hi hik => hno.out i hi hik) h : covI T ⟨fr, st, l⟩ y = k))
      have STEP := hide (fun (h : covP T ⟨fr, st, l⟩ y T.ds[k] = false) i (hi : i < T.ds.length) (hik : i < k + 1) => (by
          by_cases e : i = k
          · subst e; exact h
          · exact hno.out i hi (by omega) : covP T ⟨fr, st, l⟩ y T.ds[i] = false))
      have HX := hide Y
      have hr := Y.r2
      clear ix bd eD Y
      generalize loT T T.ds[k] y = lo at *
      generalize hiT T T.ds[k] y = hi' at *
      generalize T.ds[k] = d at *
      have NE : Nonempty (OwnW w [(w.heap.size + 1, 41, #[.int .i64 fr, .int .i64 st, .slice A l.length c]), (w.heap.size, 25, #[.slice (some ⟨db, dof, none⟩) T.ds.length k1, .slice A2 T.ps.length k2, .slice A3 T.rows.length k3])]) := ⟨⟨_, HX.out⟩⟩
      have C1 := fun x : OwnW w [(w.heap.size + 1, 41, #[.int .i64 fr, .int .i64 st, .slice A l.length c]), (w.heap.size, 25, #[.slice (some ⟨db, dof, none⟩) T.ds.length k1, .slice A2 T.ps.length k2, .slice A3 T.rows.length k3])] => x.own.r2
      rcases Bool.eq_false_or_eq_true (lastB ⟨fr, st, l⟩ d) with la | la
      rotate_left
      · rw [la] at L
        have E := hide (STEP.out (CP.out.trans (by rw [la]; rfl)))
        clear la LK CP FOUND STEP
        go_wp2_with fail
        refine wp_region_own (w := w) (L := [(w.heap.size + 1, 41, #[.int .i64 fr, .int .i64 st, .slice A l.length c]), (w.heap.size, 25, #[.slice (some ⟨db, dof, none⟩) T.ds.length k1, .slice A2 T.ps.length k2, .slice A3 T.rows.length k3])]) (by kernel_rfl) (by kernel_rfl) HX.out ?_
        repeat (go_big_quiet_step ((rename_i x; exact own_call (L.out _))))
        refine wpQuiet_nil ?_
        rintro _ ⟨⟨W, HX⟩, rfl⟩
        have hr := HX.r2
        go_wp2
        go_roundw
        case rel => exact ⟨k + 1, by omega, by go_num, HX, E⟩
        case measure => simp [intOf]; omega
      · obtain ⟨m1, m2, m3⟩ := LK.out la
        have m3' : d.tdiv st = (kkS ⟨fr, st, l⟩ d : Int) := m3
        have m2' : kkS ⟨fr, st, l⟩ d ≤ l.length := m2
        have le : l.length ≤ 10000 := VV.out.le
        have m4 : IntKind.i64.wrap (kkS ⟨fr, st, l⟩ d : Int) = (kkS ⟨fr, st, l⟩ d : Int) := IntWalk.i64_in _ (by omega)
        have G := hide (fun (W : World) (h : SerSl W ⟨fr, st, l⟩ ⟨A, c⟩) => rgreatest_any l A c (kkS ⟨fr, st, l⟩ d) W h.1 VV.out.le VV.out.ok m1 m2)
        have CP2 : Hid (covP T ⟨fr, st, l⟩ y d = decide (lo < rm l (kkS ⟨fr, st, l⟩ d) l.length)) := hide (CP.out.trans (by rw [la, gmS_rm m1 m2]; rfl))
        rw [la] at L
        clear m1 m2 m3 m2' le la LK CP
        generalize rm l (kkS ⟨fr, st, l⟩ d) l.length = g at *
        generalize kkS ⟨fr, st, l⟩ d = m at *
        by_cases cmp : lo < g
        · have E := hide (FOUND.out (CP2.out.trans (decide_eq_true cmp)))
          go_wp2_with fail
          refine wp_region_own (w := w) (L := [(w.heap.size + 1, 41, #[.int .i64 fr, .int .i64 st, .slice A l.length c]), (w.heap.size, 25, #[.slice (some ⟨db, dof, none⟩) T.ds.length k1, .slice A2 T.ps.length k2, .slice A3 T.rows.length k3])]) (by kernel_rfl) (by kernel_rfl) HX.out ?_
          repeat (go_big_quiet_step ((rename_i x; first | exact own_call (L.out _) | exact own_same (G.out _ (HS.out.below x.own.1)) | exact own_call (D.out _ (HT.out.below x.own.1)))))
          refine wpQuiet_nil ?_
          rintro _ ⟨⟨W, HX⟩, rfl⟩
          have hr := HX.r2
          go_wp2
          go_ret
          exact OnePost.mk E.out HX.1
        · have E := hide (STEP.out (CP2.out.trans (decide_eq_false cmp)))
          go_wp2_with fail
          refine wp_region_own (w := w) (L := [(w.heap.size + 1, 41, #[.int .i64 fr, .int .i64 st, .slice A l.length c]), (w.heap.size, 25, #[.slice (some ⟨db, dof, none⟩) T.ds.length k1, .slice A2 T.ps.length k2, .slice A3 T.rows.length k3])]) (by kernel_rfl) (by kernel_rfl) HX.out ?_
          repeat (go_big_quiet_step ((rename_i x; first | exact own_call (L.out _) | exact own_same (G.out _ (HS.out.below x.own.1)) | exact own_call (D.out _ (HT.out.below x.own.1)))))
          refine wpQuiet_nil ?_
          rintro _ ⟨⟨W, HX⟩, rfl⟩
          have hr := HX.r2
          go_wp2
          go_roundw
          case rel => exact ⟨k + 1, by omega, by go_num, HX, E⟩
          case measure => simp [intOf]; omega
    · have E := hide (idxP_no (p := covP T ⟨fr, st, l⟩ y) (l := T.ds) (fun i hi => hno.out i hi (by omega)))
      have Z := hide Y.1
      have hr := Y.r2
      clear Y
      go_wp2
      go_ret
      exact OnePost.mk (by unfold covI; exact E.out) Z.out
end Go.Proofs.Ytjnifgheipmanaa
