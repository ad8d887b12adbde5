/- IntensityBack: at the duration that is found for a depth this is reached, but not before, and likewise for periods: for every input the law returns true. -/
import Derived.Test.YtjnifgheipmanaaItAwk
import Derived.Test.YtjnifgheipmanaaItAsc
import Derived.Test.YtjnifgheipmanaaItLstdur
import Derived.Test.YtjnifgheipmanaaItLstper
import Derived.Deep.DeepCutAuto
namespace Go.Proofs.Ytjnifgheipmanaa
open Go.RowKit

/-- what a search gives: the span, or the error -/
def FRes (b1 b2 : Bool) (l : List Int) (g : Nat → Int) (wh v lo hi er : Int) : Prop :=
  (b1 = false ∧ lo = 0 ∧ hi = 0 ∧ er = 1) ∨ (b1 = true ∧ b2 = false ∧ lo = 0 ∧ hi = 0 ∧ er = 2) ∨ (b1 = true ∧ b2 = true ∧ Fnd l g wh v lo hi ∧ er = 0) ∨ (b1 = true ∧ b2 = true ∧ NoF l g wh v ∧ lo = 0 ∧ hi = 0 ∧ er = 12)
def SRes (b1 b2 : Bool) (l : List Int) (g : Nat → Int) (wh v : Int) (w : World) (e : Ending) (w' : World) : Prop := Below w.heap.size w w' ∧ ∃ lo hi er, e = .returned (.tuple #[Sv lo hi, .int .i64 er]) ∧ FRes b1 b2 l g wh v lo hi er
theorem dur_res (T : Tab) (a : TabA) (v y : Int) (w : World) (ht : TabSl w T a) :
    Calls Try.prog 18 #[T.val a, .int .i64 v, .int .i64 y] w (SRes (vT T) (inL T.ps y) T.ds (fun k => (plc T.ps y).val (fun j => T.cell j k)) (plc T.ps y).whole v w) := by
  refine (dur_any T a v y w ht).mono ?_
  rintro e w' ⟨hb, ⟨h1, rfl⟩ | ⟨h1, h2, rfl⟩ | ⟨h1, h2, ⟨lo, hi, h3, rfl⟩ | ⟨h3, rfl⟩⟩⟩
  · exact ⟨hb, _, _, _, rfl, .inl ⟨h1, rfl, rfl, rfl⟩⟩
  · exact ⟨hb, _, _, _, rfl, .inr (.inl ⟨h1, h2, rfl, rfl, rfl⟩)⟩
  · exact ⟨hb, _, _, _, rfl, .inr (.inr (.inl ⟨h1, h2, h3, rfl⟩))⟩
  · exact ⟨hb, _, _, _, rfl, .inr (.inr (.inr ⟨h1, h2, h3, rfl, rfl, rfl⟩))⟩
theorem per_res (T : Tab) (a : TabA) (v x : Int) (w : World) (ht : TabSl w T a) :
    Calls Try.prog 19 #[T.val a, .int .i64 x, .int .i64 v] w (SRes (vT T) (inL T.ds x) T.ps (fun j => (plc T.ds x).val (T.cell j)) (plc T.ds x).whole v w) := by
  refine (per_any T a v x w ht).mono ?_
  rintro e w' ⟨hb, ⟨h1, rfl⟩ | ⟨h1, h2, rfl⟩ | ⟨h1, h2, ⟨lo, hi, h3, rfl⟩ | ⟨h3, rfl⟩⟩⟩
  · exact ⟨hb, _, _, _, rfl, .inl ⟨h1, rfl, rfl, rfl⟩⟩
  · exact ⟨hb, _, _, _, rfl, .inr (.inl ⟨h1, h2, rfl, rfl, rfl⟩)⟩
  · exact ⟨hb, _, _, _, rfl, .inr (.inr (.inl ⟨h1, h2, h3, rfl⟩))⟩
  · exact ⟨hb, _, _, _, rfl, .inr (.inr (.inr ⟨h1, h2, h3, rfl, rfl, rfl⟩))⟩
/-- what is found, in the table's own words -/
theorem fnd_x {T : Tab} (h1 : vT T = true) {y v lo hi : Int} (h2 : inL T.ps y = true) (h : Fnd T.ds (fun k => (plc T.ps y).val (fun j => T.cell j k)) (plc T.ps y).whole v lo hi) :
    inT T hi y ∧ T.ds.getD 0 0 ≤ hi ∧ 1 ≤ hi ∧ hi ≤ 2592000 ∧ v ≤ loT T hi y ∧ (T.ds.getD 0 0 < hi → inT T (hi - 1) y ∧ loT T (hi - 1) y < v) ∧ lo = if hi = T.ds.getD 0 0 ∨ (loT T hi y = v ∧ hiT T hi y = v) then hi else hi - 1 := by
  obtain ⟨a1, a2, a3, a4, a5⟩ := h
  have vv := of_vT h1
  have b0 := vv.dB 0 (by have := vv.d1; omega)
  have b1 := vv.dB (T.ds.length - 1) (by have := vv.d1; omega)
  rw [(lineX_lo T hi y).1] at a3
  rw [(lineX_lo T hi y).1, (lineX_lo T hi y).2] at a5
  refine ⟨⟨inL_iff.2 ⟨a1, a2⟩, h2⟩, a1, by omega, by omega, a3, fun k => ⟨⟨inL_iff.2 ⟨by omega, by omega⟩, h2⟩, ?_⟩, a5⟩
  have := a4 (hi - 1) (by omega) (by omega)
  rw [(lineX_lo T (hi - 1) y).1] at this
  exact this
theorem fnd_y {T : Tab} (h1 : vT T = true) {x v lo hi : Int} (h2 : inL T.ds x = true) (h : Fnd T.ps (fun j => (plc T.ds x).val (T.cell j)) (plc T.ds x).whole v lo hi) :
    inT T x hi ∧ T.ps.getD 0 0 ≤ hi ∧ 1 ≤ hi ∧ hi ≤ 10000 ∧ v ≤ loT T x hi ∧ (T.ps.getD 0 0 < hi → inT T x (hi - 1) ∧ loT T x (hi - 1) < v) ∧ lo = if hi = T.ps.getD 0 0 ∨ (loT T x hi = v ∧ hiT T x hi = v) then hi else hi - 1 := by
  obtain ⟨a1, a2, a3, a4, a5⟩ := h
  have vv := of_vT h1
  have b0 := vv.pB 0 (by have := vv.p1; omega)
  have b1 := vv.pB (T.ps.length - 1) (by have := vv.p1; omega)
  rw [(lineY_lo T x hi).1] at a3
  rw [(lineY_lo T x hi).1, (lineY_lo T x hi).2] at a5
  refine ⟨⟨h2, inL_iff.2 ⟨a1, a2⟩⟩, a1, by omega, by omega, a3, fun k => ⟨⟨h2, inL_iff.2 ⟨by omega, by omega⟩⟩, ?_⟩, a5⟩
  have := a4 (hi - 1) (by omega) (by omega)
  rw [(lineY_lo T x (hi - 1)).1] at this
  exact this
theorem nof_x {T : Tab} (h1 : vT T = true) {y v : Int} (h2 : inL T.ps y = true) (h : NoF T.ds (fun k => (plc T.ps y).val (fun j => T.cell j k)) (plc T.ps y).whole v) : inT T (T.ds.getD (T.ds.length - 1) 0) y ∧ loT T (T.ds.getD (T.ds.length - 1) 0) y < v := by
  have vv := of_vT h1
  unfold NoF at h
  rw [(lineX_lo T _ y).1] at h
  exact ⟨⟨inL_iff.2 ⟨vv.dA.le (Nat.zero_le _) (by have := vv.d1; omega), Int.le_refl _⟩, h2⟩, h⟩
theorem Depth_in {T : Tab} {x y : Int} (h1 : vT T = true) (h : inT T x y) (a : TabA) (w : World) (ht : TabSl w T a) :
    Calls Try.prog 11 #[T.val a, .int .i64 x, .int .i64 y] w (SpanPost (loT T x y) (hiT T x y) 0 w) := by
  have D := Depth_any T a x y w ht
  obtain ⟨k0, k1, k2⟩ := dep_of h1 h
  rw [k0, k1, k2] at D
  exact D
theorem cells4_below {W W' : World} (hb : Below W.heap.size W W') {a1 a2 a3 a4 : Addr} {u1 u2 u3 u4 : Value} (h : W.cell? a1 = some u1 ∧ W.cell? a2 = some u2 ∧ W.cell? a3 = some u3 ∧ W.cell? a4 = some u4) :
    W'.cell? a1 = some u1 ∧ W'.cell? a2 = some u2 ∧ W'.cell? a3 = some u3 ∧ W'.cell? a4 = some u4 := by
  have k : ∀ (p : Addr) v, W.cell? p = some v → W'.cell? p = some v := fun p v hc => (hb.cell (lt_of_cell hc)).trans hc
  obtain ⟨h1, h2, h3, h4⟩ := h
  exact ⟨k _ _ h1, k _ _ h2, k _ _ h3, k _ _ h4⟩
set_option maxRecDepth 100000 in
set_option maxHeartbeats 8000000 in
theorem back_law (T : Tab) (a : TabA) (v x y : Int) (w : World) (ht : TabSl w T a) :
    Calls Try.prog 6 #[T.val a, .int .i64 v, .int .i64 x, .int .i64 y] w fun e w' => e = .returned (.bool true) ∧ Below w.heap.size w w' := by
  obtain ⟨A1, A2, A3, k1, k2, k3⟩ := a
  have X := (Own.start w).alloc #[.slice A1 T.ds.length k1, .slice A2 T.ps.length k2, .slice A3 T.rows.length k3] 25
  have HT := hide ht
  have l1 : T.ds.length ≤ 9223372036854775807 := ht.1.1.1
  have l2 : T.ps.length ≤ 9223372036854775807 := ht.2.1.1.1
  have D := hide (fun W u t (h1 : vT T = true) (h : inT T u t) (hT : TabSl W T ⟨A1, A2, A3, k1, k2, k3⟩) => Depth_in h1 h ⟨A1, A2, A3, k1, k2, k3⟩ W hT)
  have LG := hide (fun W (h : TabSl W T ⟨A1, A2, A3, k1, k2, k3⟩) => large_any T ⟨A1, A2, A3, k1, k2, k3⟩ W h)
  have DU := hide (fun W (h : TabSl W T ⟨A1, A2, A3, k1, k2, k3⟩) => dur_res T ⟨A1, A2, A3, k1, k2, k3⟩ v y W h)
  have PE := hide (fun W (h : TabSl W T ⟨A1, A2, A3, k1, k2, k3⟩) => per_res T ⟨A1, A2, A3, k1, k2, k3⟩ v x W h)
  clear ht
  rcases Bool.eq_false_or_eq_true (bigT T) with t1 | t1
  all_goals
    go_enter Try.func6, Try.ntmps6
    go_wp2_with fail
    refine (awake_any _).mono ?_
    rintro e w1 ⟨rfl, hb⟩
    replace X := X.to hb
    clear hb
    have hr := X.r1
    go_wp2_with fail
    refine (LG.out _ (HT.out.below X.1)).mono ?_
    rintro e w2 ⟨rfl, hb⟩
    rw [t1]
    replace X := X.to hb
    clear hb hr
    have hr := X.r1
  · go_wp2
    go_ret
    exact ⟨rfl, X.1⟩
  clear LG t1
  go_wp2_with fail
  refine (DU.out _ (HT.out.below X.1)).mono ?_
  rintro e w3 ⟨hb, lo, hi, er, rfl, hf⟩
  have HF := hide hf
  replace X := (X.to hb).alloc #[.int .i64 lo, .int .i64 hi] 29
  clear hb hr hf DU
  have hr := X.r2
  have HX := hide X
  go_upto_if 35 with (fail)
  go_cut [] (fun wx => Own w wx [(w.heap.size, 25, #[.slice A1 T.ds.length k1, .slice A2 T.ps.length k2, .slice A3 T.rows.length k3])])
  case first =>
    rcases HF.out with ⟨-, rfl, rfl, rfl⟩ | ⟨-, -, rfl, rfl, rfl⟩ | ⟨h1, h2, h3, rfl⟩ | ⟨h1, h2, h3, rfl, rfl, rfl⟩
    · go_wp2_with fail
      go_meet
      exact HX.out.tail
    · go_wp2_with fail
      go_meet
      exact HX.out.tail
    · obtain ⟨i1, b0, b1, b2, q1, q2, q3⟩ := fnd_x h1 h2 h3
      have lh := lohi (of_vT h1) i1
      have DH := hide (fun W h => D.out W hi y h1 i1 h)
      have D2 := hide (fun (k : T.ds.getD 0 0 < hi) W h => D.out W (hi - 1) y h1 (q2 k).1 h)
      have Q2 := hide (fun k => (q2 k).2)
      have ql : lo ≤ hi ∧ hi ≤ lo + 1 := by rw [q3]; split <;> omega
      have Q3 := hide q3
      have hd0 : 0 < T.ds.length := by have := (of_vT h1).d1; omega
      have hd1 : (0 : Int) < (T.ds.length : Int) := by omega
      obtain ⟨b, off, rfl, hbl, hat⟩ := HT.out.1.at_ hd0
      have c0 := hat 0 hd0
      rw [Nat.add_zero] at c0
      have C0 := hide c0
      clear q2 q3 h3 i1 hat X c0
      generalize T.ds.getD 0 0 = fs at *
      generalize loT T hi y = alo at *
      generalize hiT T hi y = ahi at *
      generalize loT T (hi - 1) y = blo at *
      generalize hiT T (hi - 1) y = bhi at *
      obtain ⟨lh1, lh2, lh3, lh4⟩ := lh
      obtain ⟨ql1, ql2⟩ := ql
      go_wp2_with fail
      refine (DH.out _ (HT.out.below HX.out.1)).mono ?_
      rintro e w4 ⟨rfl, hb⟩
      have X := (HX.out.to hb).alloc #[.int .i64 alo, .int .i64 ahi] 29
      clear hb hr
      have hr := X.r3
      have c0 := (X.1.cell (p := ⟨b, off, none⟩) hbl).trans C0.out
      by_cases k : fs < hi
      · have E : (lo = hi ∧ alo = v ∧ ahi = v) ∨ (lo = hi - 1 ∧ ¬ alo = v) ∨ (lo = hi - 1 ∧ alo = v ∧ ¬ ahi = v) := by
          have := Q3.out
          by_cases e1 : alo = v
          · by_cases e2 : ahi = v
            · rw [if_pos (.inr ⟨e1, e2⟩)] at this; exact .inl ⟨this, e1, e2⟩
            · rw [if_neg (fun h => h.elim (by omega) (fun h => e2 h.2))] at this; exact .inr (.inr ⟨this, e1, e2⟩)
          · rw [if_neg (fun h => h.elim (by omega) (fun h => e1 h.1))] at this; exact .inr (.inl ⟨this, e1⟩)
        have HE := hide E
        have bl := Q2.out k
        clear E
        go_wp2
        go_quiet (fail)
        have HX2 := hide (X.drewN' nq)
        clear hr c0 X
        have hr := HX2.out.r3
        generalize World.drewN _ nq = W at *
        go_wp2_with fail
        refine (D2.out k _ (HT.out.below HX2.out.1)).mono ?_
        rintro e w5 ⟨rfl, hb⟩
        have X := (HX2.out.to hb).alloc #[.int .i64 blo, .int .i64 bhi] 29
        clear hb hr
        have hr := X.r4
        rcases HE.out with ⟨u1, u2, u3⟩ | ⟨u1, u2⟩ | ⟨u1, u2, u3⟩
        · have s1 : (lo == hi) = true := by simp [u1]
          have s2 : (alo == v) = true := by simp [u2]
          have s3 : (ahi == v) = true := by simp [u3]
          clear u1 u2 u3
          go_wp2
          go_quiet (fail)
          go_wp2_with fail
          go_meet
          exact (X.drewN' nq).tail.tail.tail
        · have s1 : (lo == hi) = false := by simp; omega
          have s2 : (alo == v) = false := by simpa using u2
          clear u1 u2
          go_wp2
          go_quiet (fail)
          go_wp2_with fail
          go_meet
          exact (X.drewN' nq).tail.tail.tail
        · have s1 : (lo == hi) = false := by simp; omega
          have s2 : (alo == v) = true := by simp [u2]
          have s3 : (ahi == v) = false := by simpa using u3
          clear u1 u2 u3
          go_wp2
          go_quiet (fail)
          go_wp2_with fail
          go_meet
          exact (X.drewN' nq).tail.tail.tail
      · go_wp2
        go_quiet (fail)
        go_wp2_with fail
        go_meet
        exact (X.drewN' nq).tail.tail
    · obtain ⟨i1, q1⟩ := nof_x h1 h2 h3
      have DH := hide (fun W h => D.out W _ y h1 i1 h)
      have hd0 : 0 < T.ds.length := by have := (of_vT h1).d1; omega
      have hd1 : (0 : Int) ≤ (T.ds.length : Int) - 1 := by omega
      have hd2 : (T.ds.length : Int) - 1 < (T.ds.length : Int) := by omega
      obtain ⟨b, off, rfl, hbl, hat⟩ := HT.out.1.at_ hd0
      have c0 := hat (T.ds.length - 1) (by omega)
      have et : ((T.ds.length : Int) - 1).toNat = T.ds.length - 1 := by omega
      have hd3 : (1 : Int) ≤ (T.ds.length : Int) := by omega
      have hd4 : 1 ≤ T.ds.length := by omega
      have z1 := IntWalk.i64_in ((T.ds.length : Int) - 1) (by omega)
      have hlo := (lohi (of_vT h1) i1).2.2.1
      have C0 := hide c0
      have X := HX.out
      have hr := X.r2
      have c0 := (X.1.cell (p := ⟨b, off + (T.ds.length - 1), none⟩) hbl).trans C0.out
      clear h3 i1 hat HF
      generalize T.ds.getD (T.ds.length - 1) 0 = ls at *
      generalize loT T ls y = alo at *
      generalize hiT T ls y = ahi at *
      go_wp2
      have HXW := hide X
      have HS := hide (show _ ∧ _ ∧ _ ∧ _ from ⟨hr.2.1 0, hr.2.1 1, hr.2.1 2, c0⟩)
      clear X
      generalize World.alloc w3 _ = W at *
      have hzz := HXW.out.1.size
      go_region_held3 (fun w' => w'.cell? ⟨w.heap.size, 0, none⟩ = some (.slice (some ⟨b, off, none⟩) T.ds.length k1) ∧ w'.cell? ⟨w.heap.size, 1, none⟩ = some (.slice A2 T.ps.length k2) ∧ w'.cell? ⟨w.heap.size, 2, none⟩ = some (.slice A3 T.rows.length k3) ∧ w'.cell? ⟨b, off + (T.ds.length - 1), none⟩ = some (.int .i64 ls))
        (first | exact cells4_below hB HS.out | exact cells4_below (hB.alloc hB.size _) HS.out | exact cells4_below (below_set (below_set hB (Nat.le_refl _) _) (Nat.le_refl _) _) HS.out | exact cells4_below (by go_grown) HS.out | go_keep)
        (first | (go_at_call 11; refine (DH.out _ (HT.out.below (Below.trans HXW.out.1 ((show Below W.heap.size W _ by go_grown).mono hzz)))).mono ?_; rintro e w5 ⟨rfl, hb⟩; have hc3 := (below_cells hb).1; have hf3 := (below_cells hb).2; have hz3 := hb.size; have hB : Below W.heap.size W w5 := below_via (by go_grown) (by go_size) hb))
      · have hB2 := HXW.out.to hB
        go_wp2_with fail
        go_meet
        exact (hB2.alloc #[.int .i64 alo, .int .i64 ahi] 29).tail.tail
      · have hB2 := HXW.out.to (below_set (o := 1) (below_set (o := 0) hB (Nat.le_refl _) (.int .i64 alo)) (Nat.le_refl _) (.int .i64 ahi))
        go_wp2_with fail
        go_meet
        exact hB2.tail
  case rest =>
    clear X HX hr HF
    have X := hcut
    have hr := X.r1
    go_wp2_with fail
    refine (PE.out _ (HT.out.below X.1)).mono ?_
    rintro e w4 ⟨hb, lo', hi', er', rfl, hf⟩
    replace X := (X.to hb).alloc #[.int .i64 lo', .int .i64 hi'] 29
    clear hb hr PE
    have hr := X.r2
    rcases hf with ⟨-, rfl, rfl, rfl⟩ | ⟨-, -, rfl, rfl, rfl⟩ | ⟨h1, h2, h3, rfl⟩ | ⟨-, -, -, rfl, rfl, rfl⟩
    · go_wp2
      go_ret
      exact ⟨rfl, X.1⟩
    · go_wp2
      go_ret
      exact ⟨rfl, X.1⟩
    rotate_left
    · go_wp2
      go_ret
      exact ⟨rfl, X.1⟩
    · obtain ⟨i1, b0, b1, b2, q1, q2, q3⟩ := fnd_y h1 h2 h3
      have lh := lohi (of_vT h1) i1
      have DH := hide (fun W h => D.out W x hi' h1 i1 h)
      have D2 := hide (fun (k : T.ps.getD 0 0 < hi') W h => D.out W x (hi' - 1) h1 (q2 k).1 h)
      have Q2 := hide (fun k => (q2 k).2)
      have ql : lo' ≤ hi' ∧ hi' ≤ lo' + 1 := by rw [q3]; split <;> omega
      have Q3 := hide q3
      have hd0 : 0 < T.ps.length := by have := (of_vT h1).p1; omega
      have hd1 : (0 : Int) < (T.ps.length : Int) := by omega
      obtain ⟨b, off, rfl, hbl, hat⟩ := HT.out.2.1.at_ hd0
      have c0 := hat 0 hd0
      rw [Nat.add_zero] at c0
      have C0 := hide c0
      clear q2 q3 h3 i1 hat c0
      generalize T.ps.getD 0 0 = fs at *
      generalize loT T x hi' = alo at *
      generalize hiT T x hi' = ahi at *
      generalize loT T x (hi' - 1) = blo at *
      generalize hiT T x (hi' - 1) = bhi at *
      obtain ⟨lh1, lh2, lh3, lh4⟩ := lh
      obtain ⟨ql1, ql2⟩ := ql
      go_wp2_with fail
      refine (DH.out _ (HT.out.below X.1)).mono ?_
      rintro e w5 ⟨rfl, hb⟩
      replace X := (X.to hb).alloc #[.int .i64 alo, .int .i64 ahi] 29
      clear hb hr
      have hr := X.r3
      have c0 := (X.1.cell (p := ⟨b, off, none⟩) hbl).trans C0.out
      by_cases k : fs < hi'
      · have bl := Q2.out k
        have q : (hi' == fs) = false := by simp; omega
        go_wp2
        go_quiet (fail)
        have HX2 := hide (X.drewN' nq)
        clear hr c0 X
        have hr := HX2.out.r3
        generalize World.drewN _ nq = W at *
        go_wp2_with fail
        refine (D2.out k _ (HT.out.below HX2.out.1)).mono ?_
        rintro e w6 ⟨rfl, hb⟩
        have X := (HX2.out.to hb).alloc #[.int .i64 blo, .int .i64 bhi] 29
        clear hb hr
        have hr := X.r4
        go_wp2
        go_ret
        exact ⟨rfl, X.1⟩
      · have e1 : hi' = fs := by omega
        have e2 : lo' = hi' := by have := Q3.out; rw [if_pos (.inl e1)] at this; exact this
        have q : (hi' == fs) = true := by simp [e1]
        have q' : (lo' == hi') = true := by simp [e2]
        clear e1 e2
        go_wp2
        go_quiet (fail)
        go_wp2
        go_ret
        exact ⟨rfl, (X.drewN' nq).1⟩
end Go.Proofs.Ytjnifgheipmanaa
