/- IntensityCovered: the law's walk. -/
import Derived.Test.YtjnifgheipmanaaCvT
import Derived.Test.YtjnifgheipmanaaGgRef
namespace Go.Proofs.Ytjnifgheipmanaa
open Go.RowKit

theorem cv_f {k n : Nat} (h : k < n) (hn : n ≤ 30) : k + 1 ≤ maxLen ∧ (k + 1) * 8 ≤ 140737488355328 := by unfold maxLen; omega
theorem cv_f3 {n : Nat} {W : World} (h : n ≤ W.heap.size) (p : Int) : n ≤ (W.alloc (.cells #[.int .i64 p] 3)).heap.size := by simp; omega
theorem cv_f4 (p : Int) : ∀ u ∈ [Value.int .i64 p], u.oneCell' = true := by simp [Value.oneCell']
set_option maxRecDepth 100000 in
set_option maxHeartbeats 16000000 in
theorem cov_main (T : Tab) (a : TabA) (s : Ser) (q : SerA) (y : Int) (w : World) (ht : TabSl w T a) (hs : SerSl w s q) (t1 : bigT T = false) (g1 : s.ds.length ≤ 30) (g2 : 1 ≤ s.st) (g3 : s.st ≤ 86400) (hv : vS s = true) :
    Calls Try.prog 8 #[T.val a, s.val q, .int .i64 y] w fun e w' => e = .returned (.bool true) ∧ Below w.heap.size w w' := by
  obtain ⟨A1, A2, A3, k1, k2, k3⟩ := a
  obtain ⟨A, c⟩ := q
  obtain ⟨fr, st, l⟩ := s
  have X := ((Own.start w).alloc #[.slice A1 T.ds.length k1, .slice A2 T.ps.length k2, .slice A3 T.rows.length k3] 25).alloc #[.int .i64 fr, .int .i64 st, .slice A l.length c] 41
  simp only [World.size_alloc] at X
  have HT := hide ht
  have HS := hide hs
  have VV := hide (vS_iff.1 hv)
  have g1' : l.length ≤ 30 := g1
  have g2' : 1 ≤ st := g2
  have g3' : st ≤ 86400 := g3
  have z1 : ¬ (30 : Int) < (l.length : Int) := by omega
  have z2 : ¬ st < 1 := by omega
  have z3 : ¬ 86400 < st := by omega
  have OF := fun (W : World) (B : Option Addr) (cd : Nat) (h1 : SerSl W ⟨fr, st, l⟩ ⟨A, c⟩) (h2 : IntSl W B (dsL st l.length)) => of_any ⟨fr, st, l⟩ ⟨A, c⟩ (dsL st l.length) B cd W h1 h2 hv
  have eE : ofE ⟨fr, st, l⟩ (dsL st l.length) = 0 := ofE_dsL (s := ⟨fr, st, l⟩) g2 (by show l.length ≤ 100; omega)
  have eL : ofL ⟨fr, st, l⟩ (dsL st l.length) = gmL ⟨fr, st, l⟩ := ofL_dsL (s := ⟨fr, st, l⟩) g2 (by show l.length ≤ 100; omega)
  have dl := dsL_length st l.length
  simp only [eE, eL, dl] at OF
  have OF' := hide OF
  have GL := hide (gmL_length ⟨fr, st, l⟩)
  obtain ⟨i0, hi0, hz0, hz1, hz2⟩ := info_parts int_info19
  have capc : l.length ≤ c := hs.2.1
  clear ht hs eE eL dl OF g1 g2 g3
  have hr := X.r2
  show Calls Try.prog 8 #[.agg #[.slice A1 T.ds.length k1, .slice A2 T.ps.length k2, .slice A3 T.rows.length k3], .agg #[.int .i64 fr, .int .i64 st, .slice A l.length c], .int .i64 y] w _
  go_enter Try.func8, Try.ntmps8
  go_wp2_with fail
  refine (awake_any _).mono ?_
  rintro e wz ⟨rfl, hb⟩
  replace X := X.to hb
  clear hb hr
  have hr := X.r2
  go_wp2_with fail
  refine (large_any T ⟨A1, A2, A3, k1, k2, k3⟩ _ (HT.out.below X.1)).mono ?_
  rintro e wz ⟨rfl, hb⟩
  rw [t1]
  replace X := X.to hb
  clear hb hr
  have hr := X.r2
  go_wp2
  clear hr
  have HX := hide X
  clear X
  go_loopw [7, 49] (fun v7 v49 wr => ∃ k : Nat, k ≤ l.length ∧ v49 = .int .i64 (k : Int) ∧
    Own w wr [(w.heap.size + 1, 41, #[.int .i64 fr, .int .i64 st, .slice A l.length c]), (w.heap.size, 25, #[.slice A1 T.ds.length k1, .slice A2 T.ps.length k2, .slice A3 T.rows.length k3])] ∧
    wr.ownsRow w.heap.size 3 1 v7 k ((dsL st k).map (Value.int .i64))) (fun _ v49 _ => l.length - (intOf v49).toNat)
  case atStart => exact ⟨0, Nat.zero_le _, rfl, HX.out, by simpa [dsL] using World.ownsRow_nil _ _ _ _⟩
  case round =>
    obtain ⟨k, hk, rfl, Y, hrow⟩ := hrel
    clear HX
    by_cases hlt : k < l.length
    · have p0 : 0 ≤ st * ((k : Int) + 1) := Int.mul_nonneg (by omega) (by omega)
      have p1 : st * ((k : Int) + 1) ≤ 86400 * 31 := Int.mul_le_mul g3' (by omega) (by omega) (by omega)
      obtain ⟨p, hp⟩ : ∃ p, p = st * ((k : Int) + 1) := ⟨_, rfl⟩
      have s1 : IntKind.i64.wrap (st * ((k : Int) + 1)) = p := (IntWalk.i64_in _ (by omega)).trans hp.symm
      have s2 := IntWalk.i64_in ((k : Int) + 1) (by omega)
      have s3 : wrap64 (st * ((k : Int) + 1)) = p := (IntWalk.wrap64_in _ (by omega)).trans hp.symm
      have s4 := IntWalk.wrap64_in ((k : Int) + 1) (by omega)
      have TE : Hid ((dsL st (k + 1)).map (Value.int .i64) = (dsL st k).map (Value.int .i64) ++ [.int .i64 p]) := hide (by rw [dsL_succ, List.map_append, hp]; rfl)
      generalize (dsL st k).map (Value.int .i64) = R at *
      have f1 := (cv_f hlt g1').1
      have f2 := (cv_f hlt g1').2
      have f3 := cv_f3 Y.1.size p
      have f4 := cv_f4 p
      have HY := hide Y
      have HR := hide (hrow.alloc (.cells #[.int .i64 p] 3))
      have hr := Y.r2
      clear p0 p1 Y hrow hp
      go_wp2_with (at_builtin; refine wpList_append_own _ rfl _ _ 22 rfl w.heap.size 3 i0 (.int .i64 0) 1 8 Try.underlying22 hi0 hz0 hz1 hz2 rfl (by decide) _ k R rfl HR.out ⟨wr.heap.size, 0, none⟩ 1 1 [.int .i64 p] rfl rfl (World.news_of_block (cs := #[.int .i64 p]) (t := 3) (fr := (0, 0)) (heap_new_at19 (by rfl))) f4 f1 f2 f3 ?_; intro v4 w4 hown4 hgrow _)
      have Y4 := (HY.out.alloc #[.int .i64 p] 3).tail.grown HR.out hgrow (by simp)
      have B4 := hide (And.intro Y4 hown4)
      clear Y4 hown4 hgrow HR HY hr s1 s2 s3 s4 f1 f2 f3 f4
      go_roundw
      case rel => exact ⟨k + 1, hlt, by go_num, B4.out.1, by rw [TE.out]; exact B4.out.2⟩
      case measure => simp [intOf]; omega
    · have e : k = l.length := by omega
      subst e
      obtain ⟨D, cd, e7, hsl⟩ := IntSl.of_row hrow (by rw [dsL_length]; omega) (fun i hi => by
        rw [dsL_at]
        rw [dsL_length] at hi
        have p0 : 0 ≤ st * ((i : Int) + 1) := Int.mul_nonneg (by omega) (by omega)
        have p1 : st * ((i : Int) + 1) ≤ 86400 * 31 := Int.mul_le_mul g3' (by omega) (by omega) (by omega)
        omega)
      rw [dsL_length] at e7
      subst e7
      have HSL := hide hsl
      have HY := hide Y
      have hr := Y.r2
      clear hrow hsl Y
      go_wp2_with fail
      refine (OF'.out _ D cd (HS.out.below HY.out.1) HSL.out).mono ?_
      rintro e wq ⟨hb, B, cb, rfl, hl⟩
      rw [GL.out]
      have HL := hide hl
      replace HY := hide (HY.out.to hb)
      clear hb hr hl HSL
      have hr := HY.out.r2
      clear OF' i0 hi0 hz0 hz1 hz2
      have HAB := hide (fun i (hi : i < l.length) => (by
        obtain ⟨b, off, e, hbl, hat⟩ := (HS.out.below HY.out.1).1.atg (show 0 < l.length by omega)
        exact ⟨b, off, e, hbl, hat⟩ : ∃ b off, A = some ⟨b, off, none⟩ ∧ b < wq.heap.size ∧ ∀ i, i < l.length → wq.cell? ⟨b, off + i, none⟩ = some (.int .i64 (l.getD i 0))))
      go_wp2
      go_loop [84] (fun v84 => ∃ i : Nat, i ≤ l.length ∧ v84 = .int .i64 (i : Int)) (fun v84 => l.length - (intOf v84).toNat)
      case atStart => exact ⟨0, Nat.zero_le _, rfl⟩
      case round =>
        obtain ⟨i, hi, rfl⟩ := hrel
        by_cases hil : i < l.length
        · obtain ⟨b, off, rfl, hbl, hat⟩ := HAB.out i hil
          obtain ⟨gb, gof, rfl, hgb, hgat⟩ := HL.out.atg (by rw [GL.out]; show 0 < l.length; omega)
          have HAT := hide hat
          have HG := hide (fun j (hj : j < l.length) => (hgat j (by rw [GL.out]; exact hj)).trans (by rw [getD_getElem (by rw [GL.out]; exact hj), gmL_at] : some (Value.int .i64 ((gmL ⟨fr, st, l⟩).getD j 0)) = some (.int .i64 (gm l (j + 1) l.length))))
          have c0 := HG.out i hil
          have WL := hide (fun f (h : f + (i + 1) ≤ l.length) => win_le l (k := i + 1) (n := l.length) (by omega) h)
          have FE := hide (fun f (h : l.length < f + (i + 1)) => fndB_end l (k := i + 1) (n := l.length) (f := f) (by omega) (by omega) h)
          have GE := hide (fun j (e : i = j + 1) => (by subst e; exact gm_len l (by omega) (by omega) : gm l (j + 1) l.length ≤ gm l (i + 1) l.length))
          clear hat hgat
          generalize gm l (i + 1) l.length = g at *
          go_wp2
          go_loop [13, 14] (fun v13 v14 => ∃ f : Nat, f + i ≤ l.length ∧ v14 = .int .i64 (f : Int) ∧ v13 = .bool (fndB l (i + 1) g f)) (fun _ v14 => l.length - (intOf v14).toNat)
          case atStart => exact ⟨0, by omega, rfl, by rw [fndB_zero]⟩
          case round =>
            obtain ⟨f, hf, rfl, rfl⟩ := hrel
            by_cases hfi : f + i < l.length
            · have q1 : IntKind.i64.wrap ((f : Int) + (i : Int)) = ((f + i : Nat) : Int) := (IntWalk.i64_in _ (by omega)).trans (by omega)
              have q2 : IntKind.i64.wrap (((f + i : Nat) : Int) + 1) = ((f + i + 1 : Nat) : Int) := (IntWalk.i64_in _ (by omega)).trans (by omega)
              have q3 : ((f + i : Nat) : Int) < (l.length : Int) := by omega
              have q4 : ((f + i + 1 : Nat) : Int) ≤ (c : Int) := by omega
              have q5 : (f : Int) ≤ ((f + i + 1 : Nat) : Int) := by omega
              have q6 : ¬ c = f := by omega
              have WIN := hide (WL.out f (by omega))
              have FS := hide (fndB_succ l (i + 1) g f)
              generalize hfn : fndB l (i + 1) g f = fb at *
              clear hfn
              go_wp2
              go_loop [15, 107] (fun v15 v107 => ∃ m : Nat, m ≤ i + 1 ∧ v107 = .int .i64 (m : Int) ∧ v15 = .int .i64 (ps l (f + m) - ps l f)) (fun _ v107 => (i + 1) - (intOf v107).toNat)
              case atStart => exact ⟨0, by omega, rfl, by simp⟩
              case round =>
                obtain ⟨m, hm, rfl, rfl⟩ := hrel
                by_cases hmi : m < i + 1
                · have c1 : wq.cell? ⟨b, off + f + m, none⟩ = some (.int .i64 (l.getD (f + m) 0)) := by have := HAT.out (f + m) (by omega); rwa [← Nat.add_assoc] at this
                  have v0 := VV.out.ok (f + m) (by show f + m < l.length; omega)
                  have v0' : l.getD (f + m) 0 ≤ 4194304 := v0.2
                  have p1 : ps l (f + m) ≤ 4194304 * ((f + m : Nat) : Int) := ps_le (fun i hi => (VV.out.ok i hi).2) (f + m) (by show f + m ≤ l.length; omega)
                  have p2 := ps_mono l (show f ≤ f + m by omega)
                  have p3 := ps_nonneg l f
                  have PS : Hid (ps l (f + (m + 1)) = ps l (f + m) + max (l.getD (f + m) 0) 0) := hide rfl
                  have e1 : f + i + 1 - f = i + 1 := by omega
                  have e2 : (m : Int) < ((i + 1 : Nat) : Int) := by omega
                  generalize l.getD (f + m) 0 = d at *
                  generalize hS : ps l (f + m) - ps l f = S at *
                  have HS' := hide hS
                  have b1 : 0 ≤ S := by omega
                  have b2 : S ≤ 4194304 * 60 := by omega
                  clear p1 p2 p3 v0 hS
                  rcases Int.lt_or_le 0 d with z | z
                  · have r1 := IntWalk.i64_in (S + d) (by omega)
                    have NX : Hid (ps l (f + (m + 1)) - ps l f = S + d) := hide (by have := PS.out; have := HS'.out; omega)
                    go_wp2
                    all_goals go_round
                    case rel => exact ⟨m + 1, by omega, by go_num, congrArg (Value.int .i64) (by rw [NX.out]; omega)⟩
                    case measure => simp [intOf]; omega
                  · have NX : Hid (ps l (f + (m + 1)) - ps l f = S) := hide (by have := PS.out; have := HS'.out; omega)
                    go_wp2
                    all_goals go_round
                    case rel => exact ⟨m + 1, by omega, by go_num, congrArg (Value.int .i64) (by rw [NX.out]; omega)⟩
                    case measure => simp [intOf]; omega
                · have e : m = i + 1 := by omega
                  subst e
                  have e1 : f + i + 1 - f = i + 1 := by omega
                  have FS' : Hid (fndB l (i + 1) g (f + 1) = (fb || decide (ps l (f + (i + 1)) - ps l f = g))) := FS
                  have wn := WIN.out
                  clear FS
                  generalize ps l (f + (i + 1)) - ps l f = S at *
                  have gg : ¬ g < S := by omega
                  have e3 : ¬ (((i + 1 : Nat) : Int) < ((i + 1 : Nat) : Int)) := by omega
                  clear wn
                  cases fb
                  · by_cases z : S = g
                    · have z' : (S == g) = true := by simpa using z
                      have ZZ := hide z
                      clear z
                      go_wp2
                      go_round
                      case rel => exact ⟨f + 1, by omega, by go_num, by rw [FS'.out, decide_eq_true ZZ.out]; rfl⟩
                      case measure => simp [intOf]; omega
                    · have z' : (S == g) = false := by simpa using z
                      have ZZ := hide z
                      clear z
                      go_wp2
                      go_round
                      case rel => exact ⟨f + 1, by omega, by go_num, by rw [FS'.out, decide_eq_false ZZ.out]; rfl⟩
                      case measure => simp [intOf]; omega
                  · go_wp2
                    go_round
                    case rel => exact ⟨f + 1, by omega, by go_num, by rw [FS'.out]; rfl⟩
                    case measure => simp [intOf]; omega
            · have ef : f + i = l.length := by omega
              rw [FE.out f (by omega)]
              have q1 : IntKind.i64.wrap ((f : Int) + (i : Int)) = ((f + i : Nat) : Int) := (IntWalk.i64_in _ (by omega)).trans (by omega)
              have q3 : ¬ (((f + i : Nat) : Int) < (l.length : Int)) := by omega
              clear ef
              by_cases h0 : i = 0
              · have i0 : ¬ ((0 : Int) < (i : Int)) := by omega
                go_wp2
                go_round
                case rel => exact ⟨i + 1, by omega, by go_num⟩
                case measure => simp [intOf]; omega
              · obtain ⟨j, rfl⟩ : ∃ j, i = j + 1 := ⟨i - 1, by omega⟩
                have c1 := HG.out j (by omega)
                have le := GE.out j rfl
                have q5 : IntKind.i64.wrap (((j + 1 : Nat) : Int) - 1) = (j : Int) := (IntWalk.i64_in _ (by omega)).trans (by omega)
                have i0 : (0 : Int) < ((j + 1 : Nat) : Int) := by omega
                have j0 : (0 : Int) ≤ (j : Int) := by omega
                have j1 : (j : Int) < (l.length : Int) := by omega
                generalize gm l (j + 1) l.length = g2 at *
                have le' : ¬ g < g2 := by omega
                clear le
                go_wp2
                go_round
                case rel => exact ⟨j + 1 + 1, by omega, by go_num⟩
                case measure => simp [intOf]; omega
        · have e : i = l.length := by omega
          subst e
          clear HAB HL GL capc
          have X2 := hide HY.out
          clear HY
          rcases Bool.eq_false_or_eq_true (vT T) with hw | hw
          rotate_left
          · go_wp2_with fail
            refine (covers_bad T ⟨A1, A2, A3, k1, k2, k3⟩ ⟨fr, st, l⟩ ⟨A, c⟩ y _ (HT.out.below X2.out.1) (HS.out.below X2.out.1) (.inl hw)).mono ?_
            rintro e wz ⟨rfl, hb⟩
            have X3 := X2.out.to hb
            clear hb hr
            go_wp2
            go_ret
            exact ⟨rfl, X3.1⟩
          rcases Bool.eq_false_or_eq_true (inL T.ps y) with hy | hy
          rotate_left
          · go_wp2_with fail
            refine (covers_out T ⟨A1, A2, A3, k1, k2, k3⟩ ⟨fr, st, l⟩ ⟨A, c⟩ y _ (HT.out.below X2.out.1) (HS.out.below X2.out.1) hw hv hy).mono ?_
            rintro e wz ⟨rfl, hb⟩
            have X3 := X2.out.to hb
            clear hb hr
            go_wp2
            go_ret
            exact ⟨rfl, X3.1⟩
          have cb := covI_bd T ⟨fr, st, l⟩ y
          have CT := hide (fun h => covI_two (T := T) (s := ⟨fr, st, l⟩) (y := y) (of_vT hw) hy h)
          have CI := hide (fun (W : World) (h1 : TabSl W T ⟨A1, A2, A3, k1, k2, k3⟩) (h2 : SerSl W ⟨fr, st, l⟩ ⟨A, c⟩) => covers_in T ⟨A1, A2, A3, k1, k2, k3⟩ ⟨fr, st, l⟩ ⟨A, c⟩ y W h1 h2 hw hv hy)
          generalize covI T ⟨fr, st, l⟩ y = I at *
          have SC := hide (fun (W : World) (h1 : TabSl W T ⟨A1, A2, A3, k1, k2, k3⟩) => scale_any T ⟨A1, A2, A3, k1, k2, k3⟩ 2 1 W h1 hw (by omega) (by omega))
          rcases Int.lt_or_le I 0 with z | z
          rotate_left
          · have z' : ¬ I < 0 := by omega
            rw [decide_eq_false z'] at CI
            have zl : I < (T.ds.length : Int) := cb.2.1
            clear cb
            go_wp2_with fail
            refine (CI.out _ (HT.out.below X2.out.1) (HS.out.below X2.out.1)).mono ?_
            rintro e wz ⟨rfl, hb⟩
            have X3 := X2.out.to hb
            clear hb hr
            have hr := X3.r2
            go_wp2
            go_ret
            exact ⟨rfl, X3.1⟩
          · rw [decide_eq_true z] at CI
            have eI : I = -1 := cb.2.2 z
            have C2 := hide (CT.out z)
            subst eI
            clear z cb CT
            go_wp2_with fail
            refine (CI.out _ (HT.out.below X2.out.1) (HS.out.below X2.out.1)).mono ?_
            rintro e wz ⟨rfl, hb⟩
            have X3 := hide (X2.out.to hb)
            clear hb hr X2
            have hr := X3.out.r2
            go_wp2_with fail
            refine (SC.out _ (HT.out.below X3.out.1)).mono ?_
            rintro e wy ⟨hb, ⟨nb, a', rfl, ht'⟩ | ⟨_, rfl⟩⟩
            · have X4 := hide ((X3.out.to hb).alloc ((scT T 2 1).cells a') 25)
              have HT2 := hide ht'
              have C3 := hide (fun (W : World) (h1 : TabSl W (scT T 2 1) a') (h2 : SerSl W ⟨fr, st, l⟩ ⟨A, c⟩) => covers_in (scT T 2 1) a' ⟨fr, st, l⟩ ⟨A, c⟩ y W h1 h2 (vT_two hw nb) hv hy)
              rw [C2.out] at C3
              have hbb := hide hb
              clear hb hr ht'
              have hr := X4.out.r3
              go_wp2_with fail
              refine (C3.out _ (HT2.out.below ((Below.refl _ _).alloc (Nat.le_refl _) _)) (HS.out.below X4.out.1)).mono ?_
              rintro e wx ⟨rfl, hb⟩
              have X5 := X4.out.to hb
              clear hb hr
              go_wp2
              go_ret
              exact ⟨rfl, X5.1⟩
            · have X4 := (X3.out.to hb).alloc #[.slice none 0 0, .slice none 0 0, .slice none 0 0] 25
              clear hb hr
              have hr := X4.r3
              go_wp2
              go_ret
              exact ⟨rfl, X4.1⟩
end Go.Proofs.Ytjnifgheipmanaa
