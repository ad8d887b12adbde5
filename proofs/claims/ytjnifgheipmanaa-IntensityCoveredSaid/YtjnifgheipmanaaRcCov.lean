/- The program's Covers (layer 19): whether a table covers a record, and where it does not; nothing that was there is turned. -/
import Derived.Test.YtjnifgheipmanaaRcOf
import Derived.Test.YtjnifgheipmanaaItAwk
namespace Go.Proofs.Ytjnifgheipmanaa
open Go.RowKit

def covP (T : Tab) (s : Ser) (y d : Int) : Bool := lastB s d && decide (loT T d y < gmS s d)
def covI (T : Tab) (s : Ser) (y : Int) : Int := idxP (covP T s y) T.ds
def CovPost (b : Bool) (i er : Int) (w : World) (e : Ending) (w' : World) : Prop := e = .returned (.tuple #[.bool b, .int .i64 i, .int .i64 er]) ∧ Below w.heap.size w w'
theorem CovPost.mk {b b' : Bool} {i er i' er' : Int} {w w' : World} (h1 : b = b') (h2 : i = i') (h3 : er = er') (hb : Below w.heap.size w w') : CovPost b i er w (.returned (.tuple #[.bool b', .int .i64 i', .int .i64 er'])) w' := by subst h1 h2 h3; exact ⟨rfl, hb⟩
theorem inL_at {l : List Int} (ha : Asc l) {i : Nat} (hi : i < l.length) : inL l (l.getD i 0) = true := inL_iff.2 ⟨ha.le (Nat.zero_le _) hi, ha.le (by omega) (by omega)⟩
theorem getD_getElem {l : List Int} {i : Nat} (hi : i < l.length) : l.getD i 0 = l[i] := by simp [hi]
set_option maxHeartbeats 4000000 in
theorem covers_bad (T : Tab) (a : TabA) (s : Ser) (q : SerA) (y : Int) (w : World) (ht : TabSl w T a) (hs : SerSl w s q) (hv : vT T = false ∨ vS s = false) :
    Calls Try.prog 23 #[T.val a, s.val q, .int .i64 y] w (CovPost false 0 1 w) := by
  have X := ((Own.start w).alloc (T.cells a) 25).alloc (s.cells q) 41
  simp only [World.size_alloc] at X
  have HT := hide ht
  have HS := hide hs
  clear ht hs
  have hr := X.r2
  rcases Bool.eq_false_or_eq_true (vT T) with h1 | h1
  rotate_left
  · go_enter Try.func23, Try.ntmps23
    go_wp2_with fail
    refine (tvalid_any T a _ (HT.out.below X.1)).mono ?_
    rintro e w1 ⟨rfl, hb⟩
    rw [h1]
    replace X := X.to hb
    clear hb hr
    go_wp2
    go_ret3
    exact CovPost.mk rfl rfl rfl X.1
  · have h2 : vS s = false := by rcases hv with h | h
                                 · rw [h1] at h; cases h
                                 · exact h
    clear hv
    go_enter Try.func23, Try.ntmps23
    go_wp2_with fail
    refine (tvalid_any T a _ (HT.out.below X.1)).mono ?_
    rintro e w1 ⟨rfl, hb⟩
    rw [h1]
    replace X := X.to hb
    clear hb hr
    have hr := X.r2
    go_wp2_with fail
    refine (gvalid_any s q _ (HS.out.below X.1)).mono ?_
    rintro e w1 ⟨rfl, hb⟩
    rw [h2]
    replace X := X.to hb
    clear hb hr
    go_wp2
    go_ret3
    exact CovPost.mk rfl rfl rfl X.1
set_option maxHeartbeats 4000000 in
theorem covers_out (T : Tab) (a : TabA) (s : Ser) (q : SerA) (y : Int) (w : World) (ht : TabSl w T a) (hs : SerSl w s q) (h1 : vT T = true) (h2 : vS s = true) (hy : inL T.ps y = false) :
    Calls Try.prog 23 #[T.val a, s.val q, .int .i64 y] w (CovPost false 0 2 w) := by
  have X := ((Own.start w).alloc (T.cells a) 25).alloc (s.cells q) 41
  simp only [World.size_alloc] at X
  have HT := hide ht
  have HS := hide hs
  have v := of_vT h1
  have F := hide (fun W (h : IntSl W a.A2 T.ps) => find_any T.ps a.A2 a.c2 y W h v.pA v.p1 (by have := v.p2; omega) (small_p v))
  unfold FindPost at F
  rw [hy] at F
  clear ht hs v hy
  generalize fPl T.ps y = P at *
  obtain ⟨yl, yh, yr, yw⟩ := P
  have hr := X.r2
  go_enter Try.func23, Try.ntmps23
  go_wp2_with fail
  refine (tvalid_any T a _ (HT.out.below X.1)).mono ?_
  rintro e w1 ⟨rfl, hb⟩
  rw [h1]
  replace X := X.to hb
  clear hb hr
  have hr := X.r2
  go_wp2_with fail
  refine (gvalid_any s q _ (HS.out.below X.1)).mono ?_
  rintro e w1 ⟨rfl, hb⟩
  rw [h2]
  replace X := X.to hb
  clear hb hr
  have hr := X.r2
  go_wp2_with fail
  refine (F.out _ (HT.out.below X.1).2.1).mono ?_
  rintro e w2 ⟨rfl, hb⟩
  replace X := (X.to hb).alloc #[.int .i64 (yl : Int), .int .i64 (yh : Int), .int .i64 yr, .int .i64 yw] 66
  clear hb hr
  go_wp2
  go_ret3
  exact CovPost.mk rfl rfl rfl X.1
set_option maxRecDepth 100000 in
set_option maxHeartbeats 8000000 in
theorem covers_in (T : Tab) (a : TabA) (s : Ser) (q : SerA) (y : Int) (w : World) (ht : TabSl w T a) (hs : SerSl w s q) (h1 : vT T = true) (h2 : vS s = true) (hy : inL T.ps y = true) :
    Calls Try.prog 23 #[T.val a, s.val q, .int .i64 y] w (CovPost (decide (covI T s y < 0)) (covI T s y) 0 w) := by
  obtain ⟨A1, A2, A3, k1, k2, k3⟩ := a
  obtain ⟨fr, st, l⟩ := s
  obtain ⟨A, c⟩ := q
  have X := ((Own.start w).alloc #[.slice A1 T.ds.length k1, .slice A2 T.ps.length k2, .slice A3 T.rows.length k3] 25).alloc #[.int .i64 fr, .int .i64 st, .slice A l.length c] 41
  simp only [World.size_alloc] at X
  have HT := hide ht
  have HS := hide hs
  have v := of_vT h1
  have vs := vS_iff.1 h2
  have VT' := hide v
  have VV := hide vs
  have F := hide (fun W (h : IntSl W A2 T.ps) => find_any T.ps A2 k2 y W h v.pA v.p1 (by have := v.p2; omega) (small_p v))
  unfold FindPost at F
  rw [hy] at F
  have IY := hide hy
  have d1 := v.d1
  have d2 := v.d2
  have s1 : 1 ≤ st := vs.st.1
  have s0 : (st == 0) = false := by simp; omega
  have s00 : ¬ st = 0 := by omega
  obtain ⟨db, dof, rfl, hdb, hat⟩ := ht.1.atg (by show 0 < T.ds.length; omega)
  have HAT := hide hat
  clear hs v vs hy s1 hat ht
  generalize fPl T.ps y = P at *
  obtain ⟨yl, yh, yr, yw⟩ := P
  have hr := X.r2
  show Calls Try.prog 23 #[.agg #[.slice (some ⟨db, dof, none⟩) T.ds.length k1, .slice A2 T.ps.length k2, .slice A3 T.rows.length k3], .agg #[.int .i64 fr, .int .i64 st, .slice A l.length c], .int .i64 y] w _
  go_enter Try.func23, Try.ntmps23
  go_wp2_with fail
  refine (tvalid_any T ⟨some ⟨db, dof, none⟩, A2, A3, k1, k2, k3⟩ _ (HT.out.below X.1)).mono ?_
  rintro e w1 ⟨rfl, hb⟩
  rw [h1]
  replace X := X.to hb
  clear hb hr
  have hr := X.r2
  go_wp2_with fail
  refine (gvalid_any ⟨fr, st, l⟩ ⟨A, c⟩ _ (HS.out.below X.1)).mono ?_
  rintro e w1 ⟨rfl, hb⟩
  rw [h2]
  replace X := X.to hb
  clear hb hr
  have hr := X.r2
  go_wp2_with fail
  refine (F.out _ (HT.out.below X.1).2.1).mono ?_
  rintro e w2 ⟨rfl, hb⟩
  have X0 := hide (X.to hb)
  replace X := ((X.to hb).alloc #[.int .i64 (yl : Int), .int .i64 (yh : Int), .int .i64 yr, .int .i64 yw] 66).tail
  clear hb hr F
  have hr := X0.out.r2
  go_wp2
  clear hr X0
  have XH := hide X
  clear X
  go_loopw [38] (fun v38 wr => ∃ k : Nat, k ≤ T.ds.length ∧ v38 = .int .i64 (k : Int) ∧
    Own w wr [(w.heap.size + 1, 41, #[.int .i64 fr, .int .i64 st, .slice A l.length c]), (w.heap.size, 25, #[.slice (some ⟨db, dof, none⟩) T.ds.length k1, .slice A2 T.ps.length k2, .slice A3 T.rows.length k3])] ∧
    Hid (∀ i (hi : i < T.ds.length), i < k → covP T ⟨fr, st, l⟩ y T.ds[i] = false)) (fun v38 _ => T.ds.length - (intOf v38).toNat)
  case atStart => exact ⟨0, Nat.zero_le _, rfl, XH.out, hide (fun _ _ h => by omega)⟩
  case round =>
    obtain ⟨k, hk, rfl, Y, hno⟩ := hrel
    by_cases hlt : k < T.ds.length
    · have c0 := (Y.1.cell (p := ⟨db, dof + k, none⟩) hdb).trans (HAT.out k hlt)
      have ix := inL_at VT'.out.dA hlt
      have bd := VT'.out.dB k hlt
      have eD := getD_getElem hlt
      rw [eD] at c0 ix bd
      have DE : depE T T.ds[k] y = 0 ∧ depLo T T.ds[k] y = loT T T.ds[k] y ∧ depHi T T.ds[k] y = hiT T T.ds[k] y := by
        rcases dep_cases T T.ds[k] y with ⟨h, _⟩ | ⟨_, h, _⟩ | ⟨_, _, h, h', h'', _⟩
        · rw [h1] at h; cases h
        · exact absurd ⟨ix, IY.out⟩ h
        · exact ⟨h, h', h''⟩
      have D := hide (fun W (h : TabSl W T ⟨some ⟨db, dof, none⟩, A2, A3, k1, k2, k3⟩) => Depth_any T ⟨some ⟨db, dof, none⟩, A2, A3, k1, k2, k3⟩ T.ds[k] y W h)
      rw [DE.1, DE.2.1, DE.2.2] at D
      have L := hide (fun W => lasts_any ⟨fr, st, l⟩ ⟨A, c⟩ T.ds[k] W VV.out.st VV.out.le (by omega))
      have LK := hide (fun (h : lastB ⟨fr, st, l⟩ T.ds[k] = true) => lastB_k (s := ⟨fr, st, l⟩) VV.out.st.1 h)
      have CP : Hid (covP T ⟨fr, st, l⟩ y T.ds[k] = (lastB ⟨fr, st, l⟩ T.ds[k] && decide (loT T T.ds[k] y < gmS ⟨fr, st, l⟩ T.ds[k]))) := hide rfl
      have FOUND := hide (fun (h : covP T ⟨fr, st, l⟩ y T.ds[k] = true) => (idxP_yes hlt (fun i hi hik => hno.out i hi hik) h : covI T ⟨fr, st, l⟩ y = k))
      have STEP := hide (fun (h : covP T ⟨fr, st, l⟩ y T.ds[k] = false) i (hi : i < T.ds.length) (hik : i < k + 1) => (by
          by_cases e : i = k
          · subst e; exact h
          · exact hno.out i hi (by omega) : covP T ⟨fr, st, l⟩ y T.ds[i] = false))
      have HX := hide Y
      have hr := Y.r2
      clear ix bd eD DE Y
      generalize loT T T.ds[k] y = lo at *
      generalize hiT T T.ds[k] y = hi' at *
      generalize T.ds[k] = d at *
      go_wp2_with fail
      refine (L.out _).mono ?_
      rintro e w3 ⟨rfl, hb⟩
      replace HX := hide (HX.out.to hb)
      clear hb hr
      have hr := HX.out.r2
      rcases Bool.eq_false_or_eq_true (lastB ⟨fr, st, l⟩ d) with la | la
      rotate_left
      · rw [la]
        have E := hide (STEP.out (CP.out.trans (by rw [la]; rfl)))
        go_wp2
        go_roundw
        case rel => exact ⟨k + 1, by omega, by go_num, HX.out, E⟩
        case measure => simp [intOf]; omega
      · rw [la]
        obtain ⟨m1, m2, m3⟩ := LK.out la
        have m3' : d.tdiv st = (kkS ⟨fr, st, l⟩ d : Int) := m3
        have m2' : kkS ⟨fr, st, l⟩ d ≤ l.length := m2
        have le : l.length ≤ 10000 := VV.out.le
        have m4 : IntKind.i64.wrap (kkS ⟨fr, st, l⟩ d : Int) = (kkS ⟨fr, st, l⟩ d : Int) := IntWalk.i64_in _ (by omega)
        have G := hide (fun (W : World) (h : SerSl W ⟨fr, st, l⟩ ⟨A, c⟩) => greatest_in ⟨fr, st, l⟩ ⟨A, c⟩ (kkS ⟨fr, st, l⟩ d) W h h2 m1 m2)
        have CP2 : Hid (covP T ⟨fr, st, l⟩ y d = decide (lo < gm l (kkS ⟨fr, st, l⟩ d) l.length)) := hide (CP.out.trans (by rw [la]; rfl))
        simp only at G
        clear m1 m2 m3 m2' le la L LK CP
        generalize gm l (kkS ⟨fr, st, l⟩ d) l.length = g at *
        generalize (gf l (kkS ⟨fr, st, l⟩ d) l.length : Nat) = f at *
        generalize kkS ⟨fr, st, l⟩ d = m at *
        go_wp2_with fail
        go_region_held3 (fun w' => w'.cell? ⟨w.heap.size + 1, 0, none⟩ = some (.int .i64 fr) ∧ w'.cell? ⟨w.heap.size + 1, 1, none⟩ = some (.int .i64 st) ∧ w'.cell? ⟨w.heap.size + 1, 2, none⟩ = some (.slice A l.length c)) (go_keep)
          ((go_at_call 49; (first | refine (G.out _ (HS.out.below HX.out.1)).mono ?_ | refine (G.out _ (HS.out.below HX.out.drew.1)).mono ?_); rintro e w4 ⟨rfl, hb⟩; (first | (replace HX := hide (HX.out.to hb)) | (replace HX := hide (HX.out.drew.to hb))); have hkk := keeps hb; clear hb))
        clear hkk hr
        have hr := HX.out.r2
        go_wp2_with fail
        refine (D.out _ (HT.out.below HX.out.1)).mono ?_
        rintro e w5 ⟨rfl, hb⟩
        have Z := (HX.out.to hb).alloc #[.int .i64 lo, .int .i64 hi'] 29
        clear hb hr
        have hr := Z.r3
        by_cases cmp : lo < g
        · have E := hide (FOUND.out (CP2.out.trans (decide_eq_true cmp)))
          go_wp2
          go_ret3
          exact CovPost.mk (by show decide (idxP (covP T ⟨fr, st, l⟩ y) T.ds < 0) = _; rw [E.out]; exact decide_eq_false (by omega)) E.out rfl Z.1
        · have E := hide (STEP.out (CP2.out.trans (decide_eq_false cmp)))
          go_wp2
          go_roundw
          case rel => exact ⟨k + 1, by omega, by go_num, Z.tail, E⟩
          case measure => simp [intOf]; omega
    · have E := hide (idxP_no (p := covP T ⟨fr, st, l⟩ y) (l := T.ds) (fun i hi => hno.out i hi (by omega)))
      have Z := hide Y.1
      clear Y
      go_wp2
      go_ret3
      exact CovPost.mk (by show decide (covI T ⟨fr, st, l⟩ y < 0) = _; unfold covI; rw [E.out]; rfl) (by unfold covI; exact E.out) rfl Z.out
end Go.Proofs.Ytjnifgheipmanaa
