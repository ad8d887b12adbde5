/- The program's Merge of valid records of one shape (printed by gen_merge.py); nothing that was there is turned. -/
import Derived.Test.YtkbocphpnmpaeaaGgMrg
namespace Go.Proofs.Ytkbocphpnmpaeaa
open Go.RowKit

set_option maxRecDepth 100000 in
set_option maxHeartbeats 4000000 in
theorem merge_lb (fr fr' st : Int) (l l' : List Int) (A A' : Option Addr) (c c' : Nat) (w : World) (hs : SerSl w ⟨fr, st, l⟩ ⟨A, c⟩) (ht : SerSl w ⟨fr', st, l'⟩ ⟨A', c'⟩) (hv1 : vS ⟨fr, st, l⟩ = true) (hv2 : vS ⟨fr', st, l'⟩ = true) (h0 : (fr - fr').tmod st = 0) (hm : fr' < fr) (ea eb : Int) (hea : ea = enS ⟨fr, st, l⟩) (heb : eb = enS ⟨fr', st, l'⟩) (he : ea < eb)
    (hn : mgN ⟨fr, st, l⟩ ⟨fr', st, l'⟩ ≤ 10000) : Calls Try.prog 29 #[.agg #[.int .i64 fr, .int .i64 st, .slice A l.length c], .agg #[.int .i64 fr', .int .i64 st, .slice A' l'.length c']] w (SerPost ⟨mgF ⟨fr, st, l⟩ ⟨fr', st, l'⟩, st, mgL ⟨fr, st, l⟩ ⟨fr', st, l'⟩ (mgN ⟨fr, st, l⟩ ⟨fr', st, l'⟩)⟩ 0 w) := by
  have VA := hide (fun W (h : SerSl W ⟨fr, st, l⟩ ⟨A, c⟩) => gvalid_any ⟨fr, st, l⟩ ⟨A, c⟩ W h)
  have VB := hide (fun W (h : SerSl W ⟨fr', st, l'⟩ ⟨A', c'⟩) => gvalid_any ⟨fr', st, l'⟩ ⟨A', c'⟩ W h)
  rw [hv1] at VA
  rw [hv2] at VB
  have va := vS_iff.1 hv1
  have vb := vS_iff.1 hv2
  have v1 : 1 ≤ st ∧ st ≤ 86400 := va.st
  have f1 : -68719476736 ≤ fr ∧ fr ≤ 68719476736 := va.fr
  have f2 : -68719476736 ≤ fr' ∧ fr' ≤ 68719476736 := vb.fr
  have MB := mg_bd va vb
  have MT := hide (fun k (hk : k < mgN ⟨fr, st, l⟩ ⟨fr', st, l'⟩) => mg_t va vb hk)
  have MV := hide (fun t => mgV_bd va vb t)
  have e0 : max (enS ⟨fr, st, l⟩) (enS ⟨fr', st, l'⟩) = eb := by rw [← hea, ← heb]; omega
  have f0 : mgF ⟨fr, st, l⟩ ⟨fr', st, l'⟩ = fr' := by show min fr fr' = _; omega
  have EA := fun W => gend_any ⟨fr, st, l⟩ ⟨A, c⟩ W va
  have EB := fun W => gend_any ⟨fr', st, l'⟩ ⟨A', c'⟩ W vb
  rw [← hea] at EA
  rw [← heb] at EB
  have EAH : Hid (∀ W, Calls Try.prog 46 #[.agg #[.int .i64 fr, .int .i64 st, .slice A l.length c]] W fun e w' => e = .returned (.int .i64 ea) ∧ Below W.heap.size W w') := hide EA
  have EBH : Hid (∀ W, Calls Try.prog 46 #[.agg #[.int .i64 fr', .int .i64 st, .slice A' l'.length c']] W fun e w' => e = .returned (.int .i64 eb) ∧ Below W.heap.size W w') := hide EB
  have AT : Hid (∀ W t, SerSl W ⟨fr, st, l⟩ ⟨A, c⟩ → -68719476736 ≤ t ∧ t ≤ 68719476736 → Calls Try.prog 47 #[.agg #[.int .i64 fr, .int .i64 st, .slice A l.length c], .int .i64 t] W (NPost (atS ⟨fr, st, l⟩ t) W)) := hide (fun W t h ht => gat_any ⟨fr, st, l⟩ ⟨A, c⟩ t W h va ht)
  have BT : Hid (∀ W t, SerSl W ⟨fr', st, l'⟩ ⟨A', c'⟩ → -68719476736 ≤ t ∧ t ≤ 68719476736 → Calls Try.prog 47 #[.agg #[.int .i64 fr', .int .i64 st, .slice A' l'.length c'], .int .i64 t] W (NPost (atS ⟨fr', st, l'⟩ t) W)) := hide (fun W t h ht => gat_any ⟨fr', st, l'⟩ ⟨A', c'⟩ t W h vb ht)
  rw [e0, f0] at MB
  obtain ⟨mf, mea, meb, mb0, mb1, mb2, mb3⟩ := MB
  have mb3' : (mgN ⟨fr, st, l⟩ ⟨fr', st, l'⟩ : Int) = (eb - fr') / st := mb3
  have nb : (mgN ⟨fr, st, l⟩ ⟨fr', st, l'⟩ : Int) ≤ 137438953472 := by rw [mb3']; exact mb2
  have ms := hide (fun i => mgL_succ ⟨fr, st, l⟩ ⟨fr', st, l'⟩ i)
  have MG0 : Hid (mgL ⟨fr, st, l⟩ ⟨fr', st, l'⟩ 0 = []) := hide rfl
  have MLN := hide (fun i => mgL_length ⟨fr, st, l⟩ ⟨fr', st, l'⟩ i)
  have MBD : Hid (∀ i, ∀ u ∈ mgL ⟨fr, st, l⟩ ⟨fr', st, l'⟩ i, -9223372036854775808 ≤ u ∧ u ≤ 9223372036854775807) := hide (fun i u hu => by
    obtain ⟨j, _, rfl⟩ := List.mem_map.1 hu
    have := MV.out (mgF ⟨fr, st, l⟩ ⟨fr', st, l'⟩ + st * (j : Int))
    have h2 : -1 ≤ mgV ⟨fr, st, l⟩ ⟨fr', st, l'⟩ (mgF ⟨fr, st, l⟩ ⟨fr', st, l'⟩ + st * (j : Int)) ∧ mgV ⟨fr, st, l⟩ ⟨fr', st, l'⟩ (mgF ⟨fr, st, l⟩ ⟨fr', st, l'⟩ + st * (j : Int)) ≤ 4194304 := this
    exact ⟨Int.le_trans (by decide) h2.1, Int.le_trans h2.2 (by decide)⟩)
  have AV : Hid (∀ t, mgV ⟨fr, st, l⟩ ⟨fr', st, l'⟩ t = if atS ⟨fr, st, l⟩ t = -1 then atS ⟨fr', st, l'⟩ t else atS ⟨fr, st, l⟩ t) := hide (fun t => rfl)
  rw [f0]
  rw [f0] at MT ms
  have MT' : Hid (∀ k, k < mgN ⟨fr, st, l⟩ ⟨fr', st, l'⟩ → 0 ≤ st * (k : Int) ∧ st * (k : Int) ≤ 137438953472 ∧ -68719476736 ≤ fr' + st * (k : Int) ∧ fr' + st * (k : Int) ≤ 68719476736) := MT
  have ms' : Hid (∀ i : Nat, mgL ⟨fr, st, l⟩ ⟨fr', st, l'⟩ (i + 1) = mgL ⟨fr, st, l⟩ ⟨fr', st, l'⟩ i ++ [mgV ⟨fr, st, l⟩ ⟨fr', st, l'⟩ (fr' + st * (i : Int))]) := ms
  clear MT ms mb3
  generalize mgN ⟨fr, st, l⟩ ⟨fr', st, l'⟩ = N at *
  have mea' : -68719476736 ≤ ea ∧ ea ≤ 68719476736 := by rw [hea]; exact mea
  have meb' : -68719476736 ≤ eb ∧ eb ≤ 68719476736 := by rw [heb]; exact meb
  have x1 := IntWalk.i64_in (fr - fr') (by omega)
  have x2 : IntKind.i64.wrap ((fr - fr').tmod st) = 0 := by rw [h0]; decide
  have x3 := IntWalk.i64_in (eb - fr') (by omega)
  have x4 : (eb - fr').tdiv st = (N : Int) := by rw [Int.tdiv_eq_ediv_of_nonneg mb0, mb3']
  have x5 : IntKind.i64.wrap ((eb - fr').tdiv st) = (N : Int) := by rw [x4]; exact IntWalk.i64_in _ (by omega)
  have x6 : IntKind.i64.wrap (N : Int) = (N : Int) := IntWalk.i64_in _ (by omega)
  have x7 : decide ((10000 : Int) < (N : Int)) = false := decide_eq_false (by omega)
  have x8 : decide (10000 < N) = false := decide_eq_false (by omega)
  have q5 : (st == 0) = false := beq_eq_false_iff_ne.2 (by omega)
  have q6 : ¬ st = 0 := by omega
  have HB0 := hide (And.intro v1 (And.intro f1 (And.intro f2 mf)))
  have HS := hide hs
  have HT := hide ht
  have X := (((Own.start w).alloc #[.int .i64 fr, .int .i64 st, .slice A l.length c] 24).alloc #[.int .i64 fr', .int .i64 st, .slice A' l'.length c'] 24).alloc #[.int .i64 0, .int .i64 0, .slice none 0 0] 24
  simp only [World.size_alloc] at X
  clear hs ht hv1 hv2 va vb f1 f2 v1 mf mea meb mb0 mb1 mb2 mb3' e0 f0 EA EB hea heb mea' meb'
  have hr := X.r3
  go_enter Try.func29, Try.ntmps29
  go_wp2_with fail
  refine (VA.out _ (HS.out.below X.1)).mono ?_
  rintro e w1 ⟨rfl, hb⟩
  replace X := X.to hb
  clear hb hr VA
  have hr := X.r3
  go_wp2_with fail
  refine (VB.out _ (HT.out.below X.1)).mono ?_
  rintro e w1 ⟨rfl, hb⟩
  replace X := X.to hb
  clear hb hr VB
  have hr := X.r3
  go_wp2_with fail
  have lt1 : w.heap.size + 1 + 1 < w1.heap.size := X.r1.2.2
  replace X := X.alloc #[.int .i64 fr', .int .i64 st, .slice none 0 0] 24
  clear hr
  have HX := hide X
  have NE : Nonempty (OwnW w [(w1.heap.size, 24, #[.int .i64 fr', .int .i64 st, .slice none 0 0]), (w.heap.size + 1 + 1, 24, #[.int .i64 0, .int .i64 0, .slice none 0 0]), (w.heap.size + 1, 24, #[.int .i64 fr', .int .i64 st, .slice A' l'.length c']), (w.heap.size, 24, #[.int .i64 fr, .int .i64 st, .slice A l.length c])]) := ⟨⟨_, X⟩⟩
  have C1 := fun x : OwnW w [(w1.heap.size, 24, #[.int .i64 fr', .int .i64 st, .slice none 0 0]), (w.heap.size + 1 + 1, 24, #[.int .i64 0, .int .i64 0, .slice none 0 0]), (w.heap.size + 1, 24, #[.int .i64 fr', .int .i64 st, .slice A' l'.length c']), (w.heap.size, 24, #[.int .i64 fr, .int .i64 st, .slice A l.length c])] => x.own.r4
  clear X
  refine wp_region_own (w := w) (L := [(w1.heap.size, 24, #[.int .i64 fr', .int .i64 st, .slice none 0 0]), (w.heap.size + 1 + 1, 24, #[.int .i64 0, .int .i64 0, .slice none 0 0]), (w.heap.size + 1, 24, #[.int .i64 fr', .int .i64 st, .slice A' l'.length c']), (w.heap.size, 24, #[.int .i64 fr, .int .i64 st, .slice A l.length c])]) (by kernel_rfl) (by kernel_rfl) HX.out ?_
  repeat (go_big_quiet_step ((rename_i x; first | (with_reducible exact own_call (EAH.out _)) | (with_reducible exact own_call (EBH.out _)))))
  refine wpQuiet_nil ?_
  rintro W ⟨⟨W2, HX2⟩, hx⟩
  have hx' : W = W2 := hx
  subst hx'
  have X := HX2
  clear HX2 HX C1 NE hx
  have loW : w1.heap.size < W.heap.size := X.r1.2.2
  have G0 : Gat w W W.heap.size w1.heap.size fr' st [(w.heap.size + 1 + 1, 24, #[.int .i64 0, .int .i64 0, .slice none 0 0]), (w.heap.size + 1, 24, #[.int .i64 fr', .int .i64 st, .slice A' l'.length c']), (w.heap.size, 24, #[.int .i64 fr, .int .i64 st, .slice A l.length c])] [] (.slice none 0 0) 0 (mgL ⟨fr, st, l⟩ ⟨fr', st, l'⟩ 0) := by
    refine ⟨X, by rw [MG0.out]; exact World.ownsRow_nil _ _ _ _, fun p hp => by simp at hp, ⟨Nat.le_refl _, X.1.size, by omega⟩, ?_, ?_⟩
    · intro x hx
      simp only [List.mem_cons, List.not_mem_nil, or_false] at hx
      rcases hx with rfl | rfl | rfl
      · show (3 : TypeId) ≠ 24; decide
      · show (3 : TypeId) ≠ 24; decide
      · show (3 : TypeId) ≠ 24; decide
    · intro x hx
      simp only [List.mem_cons, List.not_mem_nil, or_false] at hx
      rcases hx with rfl | rfl | rfl
      · show w.heap.size + 1 + 1 ≠ w1.heap.size; omega
      · show w.heap.size + 1 ≠ w1.heap.size; omega
      · show w.heap.size ≠ w1.heap.size; omega
  have GH := hide G0
  clear G0
  have hr := X.r4
  go_wp2
  clear hr X
  go_loopw [8, 9, 10, 60] (fun v8 v9 v10 v60 wr => ∃ (i : Nat) (v : Value), i ≤ N ∧ v60 = .int .i64 (i : Int) ∧ Hid (Gat w wr W.heap.size w1.heap.size fr' st [(w.heap.size + 1 + 1, 24, #[.int .i64 0, .int .i64 0, .slice none 0 0]), (w.heap.size + 1, 24, #[.int .i64 fr', .int .i64 st, .slice A' l'.length c']), (w.heap.size, 24, #[.int .i64 fr, .int .i64 st, .slice A l.length c])] [] v i (mgL ⟨fr, st, l⟩ ⟨fr', st, l'⟩ i))) (fun _ _ _ v60 _ => N - (intOf v60).toNat)
  case atStart => exact ⟨0, .slice none 0 0, by omega, rfl, GH⟩
  case round =>
    obtain ⟨i, v, hi, rfl, Y⟩ := hrel
    obtain ⟨j0, hj0, hz0, hz1, hz2⟩ := info_parts int_info17
    by_cases hlt : i < N
    · obtain ⟨t1, t2, t3, t4⟩ := MT'.out i hlt
      obtain ⟨p, hp⟩ : ∃ p, p = st * (i : Int) := ⟨_, rfl⟩
      obtain ⟨T, hT⟩ : ∃ T, T = fr' + p := ⟨_, rfl⟩
      rw [← hp] at t1 t2 t3 t4
      rw [← hT] at t3 t4
      have s1 : IntKind.i64.wrap (st * (i : Int)) = p := by rw [← hp]; exact IntWalk.i64_in _ (by omega)
      have s2 : IntKind.i64.wrap (fr' + p) = T := by rw [← hT]; exact IntWalk.i64_in _ (by omega)
      have E1 := ms'.out i
      rw [← hp, ← hT] at E1
      have E1 := hide E1
      have EV := hide (AV.out T)
      have CA := hide (AT.out wr T (HS.out.below Y.out.own.1) ⟨t3, t4⟩)
      have CB := hide (fun W (h : SerSl W ⟨fr', st, l'⟩ ⟨A', c'⟩) => BT.out W T h ⟨t3, t4⟩)
      have hr := Y.out.own.r4
      rename_i E0
      clear E0 hp hT t1 t2 t3 t4
      generalize mgL ⟨fr, st, l⟩ ⟨fr', st, l'⟩ i = L0 at *
      generalize hd : mgV ⟨fr, st, l⟩ ⟨fr', st, l'⟩ T = d at *
      generalize atS ⟨fr, st, l⟩ T = u1 at *
      generalize atS ⟨fr', st, l'⟩ T = u2 at *
      clear hd
      by_cases e : u1 = -1
      · have ED : Hid (d = u2) := hide (EV.out.trans (if_pos e))
        subst e
        clear EV
        go_wp2_with fail
        refine CA.out.mono ?_
        rintro e w4 ⟨rfl, hb4⟩
        have Y4 := hide (Y.out.to hb4)
        clear hr CA
        have hr := Y4.out.own.r4
        go_wp2_with fail
        refine (CB.out _ (HT.out.below Y4.out.own.1)).mono ?_
        rintro e w5 ⟨rfl, hb5⟩
        have hb0 := hb4.trans (hb5.mono hb4.size)
        clear hb4 hb5 CB Y4
        have f0' : (0 : Nat) < 1 := by decide
        have f1 : i + 1 ≤ maxLen := by unfold maxLen; omega
        have f2 : (i + 1) * 8 ≤ 140737488355328 := by omega
        have f4 : ∀ u ∈ [Value.int .i64 u2], u.oneCell' = true := by intro u hu; simp at hu; subst hu; rfl
        have Y3 := hide (Y.out.to hb0)
        have hr3 := Y3.out.own.r4
        clear hb0 hr
        go_wp2_with (at_builtin; refine wpList_append_lies _ rfl _ _ 22 rfl W.heap.size 3 j0 (.int .i64 0) 1 8 Try.underlying22 hj0 hz0 hz1 hz2 rfl (by decide) _ i (L0.map (Value.int .i64)) rfl (Y3.out.row.alloc (.cells #[.int .i64 u2] 3)) ⟨w5.heap.size, 0, none⟩ 1 1 [.int .i64 u2] rfl rfl (World.news_of_block (cs := #[.int .i64 u2]) (t := 3) (fr := (0, 0)) (heap_alloc_new w5 _)) f4 f0' f1 f2 (by have := Y3.out.b2.1; simp; omega) (w5.heap.size + 1) (by simp) ?_; intro gg cp w6 hown6 hgrow hat6 hlt6; have hr6 := ((Y3.out.alloc (.cells #[.int .i64 u2] 3)).grown hgrow).r4)
        have Y5 := hide ((Y3.out.alloc (.cells #[.int .i64 u2] 3)).app (L4 := L0 ++ [u2]) (by rw [List.map_append]; exact hown6) hgrow)
        clear Y3 hown6 hgrow hr6 hr3
        go_roundw
        case rel => exact ⟨i + 1, _, by omega, by go_num, by rw [E1.out, ED.out]; exact Y5⟩
        case measure => simp [intOf]; omega
      · have ED : Hid (d = u1) := hide (EV.out.trans (if_neg e))
        have e1 : (u1 == -1) = false := beq_eq_false_iff_ne.2 e
        clear EV e
        go_wp2_with fail
        refine CA.out.mono ?_
        rintro e w5 ⟨rfl, hb0⟩
        clear CA CB
        have f0' : (0 : Nat) < 1 := by decide
        have f1 : i + 1 ≤ maxLen := by unfold maxLen; omega
        have f2 : (i + 1) * 8 ≤ 140737488355328 := by omega
        have f4 : ∀ u ∈ [Value.int .i64 u1], u.oneCell' = true := by intro u hu; simp at hu; subst hu; rfl
        have Y3 := hide (Y.out.to hb0)
        have hr3 := Y3.out.own.r4
        clear hb0 hr
        go_wp2_with (at_builtin; refine wpList_append_lies _ rfl _ _ 22 rfl W.heap.size 3 j0 (.int .i64 0) 1 8 Try.underlying22 hj0 hz0 hz1 hz2 rfl (by decide) _ i (L0.map (Value.int .i64)) rfl (Y3.out.row.alloc (.cells #[.int .i64 u1] 3)) ⟨w5.heap.size, 0, none⟩ 1 1 [.int .i64 u1] rfl rfl (World.news_of_block (cs := #[.int .i64 u1]) (t := 3) (fr := (0, 0)) (heap_alloc_new w5 _)) f4 f0' f1 f2 (by have := Y3.out.b2.1; simp; omega) (w5.heap.size + 1) (by simp) ?_; intro gg cp w6 hown6 hgrow hat6 hlt6; have hr6 := ((Y3.out.alloc (.cells #[.int .i64 u1] 3)).grown hgrow).r4)
        have Y5 := hide ((Y3.out.alloc (.cells #[.int .i64 u1] 3)).app (L4 := L0 ++ [u1]) (by rw [List.map_append]; exact hown6) hgrow)
        clear Y3 hown6 hgrow hr6 hr3
        go_roundw
        case rel => exact ⟨i + 1, _, by omega, by go_num, by rw [E1.out, ED.out]; exact Y5⟩
        case measure => simp [intOf]; omega
    · obtain rfl : i = N := by omega
      have hN := MLN.out i
      have bd := MBD.out i
      obtain ⟨g', cp, rfl⟩ : ∃ A c, v = .slice A i c := by
        rcases Y.out.row.2 with ⟨rfl, h0⟩ | ⟨g, cap, _, rfl, _⟩
        · subst h0; exact ⟨none, 0, rfl⟩
        · exact ⟨_, cap, rfl⟩
      have PO := hide (fun x y z => Y.out.post (rb := w.heap.size + 1 + 1) (List.mem_cons_self ..) (by omega) x y z bd (by omega) (by have := HB0.out.2; omega) (by have := HB0.out.1; omega))
      have hr := Y.out.own.r4
      clear bd hN
      go_wp2
      refine bodyPost_ret (v := .tuple #[.agg #[.int .i64 fr', .int .i64 st, .slice g' i cp], .int .i64 0]) ?_ rfl ?_
      · simp [results, Try.results29, hr, go_sem]
      · exact PO.out _ _ _
set_option maxRecDepth 100000 in
set_option maxHeartbeats 4000000 in
theorem merge_la (fr fr' st : Int) (l l' : List Int) (A A' : Option Addr) (c c' : Nat) (w : World) (hs : SerSl w ⟨fr, st, l⟩ ⟨A, c⟩) (ht : SerSl w ⟨fr', st, l'⟩ ⟨A', c'⟩) (hv1 : vS ⟨fr, st, l⟩ = true) (hv2 : vS ⟨fr', st, l'⟩ = true) (h0 : (fr - fr').tmod st = 0) (hm : fr' < fr) (ea eb : Int) (hea : ea = enS ⟨fr, st, l⟩) (heb : eb = enS ⟨fr', st, l'⟩) (he : ¬ ea < eb)
    (hn : mgN ⟨fr, st, l⟩ ⟨fr', st, l'⟩ ≤ 10000) : Calls Try.prog 29 #[.agg #[.int .i64 fr, .int .i64 st, .slice A l.length c], .agg #[.int .i64 fr', .int .i64 st, .slice A' l'.length c']] w (SerPost ⟨mgF ⟨fr, st, l⟩ ⟨fr', st, l'⟩, st, mgL ⟨fr, st, l⟩ ⟨fr', st, l'⟩ (mgN ⟨fr, st, l⟩ ⟨fr', st, l'⟩)⟩ 0 w) := by
  have VA := hide (fun W (h : SerSl W ⟨fr, st, l⟩ ⟨A, c⟩) => gvalid_any ⟨fr, st, l⟩ ⟨A, c⟩ W h)
  have VB := hide (fun W (h : SerSl W ⟨fr', st, l'⟩ ⟨A', c'⟩) => gvalid_any ⟨fr', st, l'⟩ ⟨A', c'⟩ W h)
  rw [hv1] at VA
  rw [hv2] at VB
  have va := vS_iff.1 hv1
  have vb := vS_iff.1 hv2
  have v1 : 1 ≤ st ∧ st ≤ 86400 := va.st
  have f1 : -68719476736 ≤ fr ∧ fr ≤ 68719476736 := va.fr
  have f2 : -68719476736 ≤ fr' ∧ fr' ≤ 68719476736 := vb.fr
  have MB := mg_bd va vb
  have MT := hide (fun k (hk : k < mgN ⟨fr, st, l⟩ ⟨fr', st, l'⟩) => mg_t va vb hk)
  have MV := hide (fun t => mgV_bd va vb t)
  have e0 : max (enS ⟨fr, st, l⟩) (enS ⟨fr', st, l'⟩) = ea := by rw [← hea, ← heb]; omega
  have f0 : mgF ⟨fr, st, l⟩ ⟨fr', st, l'⟩ = fr' := by show min fr fr' = _; omega
  have EA := fun W => gend_any ⟨fr, st, l⟩ ⟨A, c⟩ W va
  have EB := fun W => gend_any ⟨fr', st, l'⟩ ⟨A', c'⟩ W vb
  rw [← hea] at EA
  rw [← heb] at EB
  have EAH : Hid (∀ W, Calls Try.prog 46 #[.agg #[.int .i64 fr, .int .i64 st, .slice A l.length c]] W fun e w' => e = .returned (.int .i64 ea) ∧ Below W.heap.size W w') := hide EA
  have EBH : Hid (∀ W, Calls Try.prog 46 #[.agg #[.int .i64 fr', .int .i64 st, .slice A' l'.length c']] W fun e w' => e = .returned (.int .i64 eb) ∧ Below W.heap.size W w') := hide EB
  have AT : Hid (∀ W t, SerSl W ⟨fr, st, l⟩ ⟨A, c⟩ → -68719476736 ≤ t ∧ t ≤ 68719476736 → Calls Try.prog 47 #[.agg #[.int .i64 fr, .int .i64 st, .slice A l.length c], .int .i64 t] W (NPost (atS ⟨fr, st, l⟩ t) W)) := hide (fun W t h ht => gat_any ⟨fr, st, l⟩ ⟨A, c⟩ t W h va ht)
  have BT : Hid (∀ W t, SerSl W ⟨fr', st, l'⟩ ⟨A', c'⟩ → -68719476736 ≤ t ∧ t ≤ 68719476736 → Calls Try.prog 47 #[.agg #[.int .i64 fr', .int .i64 st, .slice A' l'.length c'], .int .i64 t] W (NPost (atS ⟨fr', st, l'⟩ t) W)) := hide (fun W t h ht => gat_any ⟨fr', st, l'⟩ ⟨A', c'⟩ t W h vb ht)
  rw [e0, f0] at MB
  obtain ⟨mf, mea, meb, mb0, mb1, mb2, mb3⟩ := MB
  have mb3' : (mgN ⟨fr, st, l⟩ ⟨fr', st, l'⟩ : Int) = (ea - fr') / st := mb3
  have nb : (mgN ⟨fr, st, l⟩ ⟨fr', st, l'⟩ : Int) ≤ 137438953472 := by rw [mb3']; exact mb2
  have ms := hide (fun i => mgL_succ ⟨fr, st, l⟩ ⟨fr', st, l'⟩ i)
  have MG0 : Hid (mgL ⟨fr, st, l⟩ ⟨fr', st, l'⟩ 0 = []) := hide rfl
  have MLN := hide (fun i => mgL_length ⟨fr, st, l⟩ ⟨fr', st, l'⟩ i)
  have MBD : Hid (∀ i, ∀ u ∈ mgL ⟨fr, st, l⟩ ⟨fr', st, l'⟩ i, -9223372036854775808 ≤ u ∧ u ≤ 9223372036854775807) := hide (fun i u hu => by
    obtain ⟨j, _, rfl⟩ := List.mem_map.1 hu
    have := MV.out (mgF ⟨fr, st, l⟩ ⟨fr', st, l'⟩ + st * (j : Int))
    have h2 : -1 ≤ mgV ⟨fr, st, l⟩ ⟨fr', st, l'⟩ (mgF ⟨fr, st, l⟩ ⟨fr', st, l'⟩ + st * (j : Int)) ∧ mgV ⟨fr, st, l⟩ ⟨fr', st, l'⟩ (mgF ⟨fr, st, l⟩ ⟨fr', st, l'⟩ + st * (j : Int)) ≤ 4194304 := this
    exact ⟨Int.le_trans (by decide) h2.1, Int.le_trans h2.2 (by decide)⟩)
  have AV : Hid (∀ t, mgV ⟨fr, st, l⟩ ⟨fr', st, l'⟩ t = if atS ⟨fr, st, l⟩ t = -1 then atS ⟨fr', st, l'⟩ t else atS ⟨fr, st, l⟩ t) := hide (fun t => rfl)
  rw [f0]
  rw [f0] at MT ms
  have MT' : Hid (∀ k, k < mgN ⟨fr, st, l⟩ ⟨fr', st, l'⟩ → 0 ≤ st * (k : Int) ∧ st * (k : Int) ≤ 137438953472 ∧ -68719476736 ≤ fr' + st * (k : Int) ∧ fr' + st * (k : Int) ≤ 68719476736) := MT
  have ms' : Hid (∀ i : Nat, mgL ⟨fr, st, l⟩ ⟨fr', st, l'⟩ (i + 1) = mgL ⟨fr, st, l⟩ ⟨fr', st, l'⟩ i ++ [mgV ⟨fr, st, l⟩ ⟨fr', st, l'⟩ (fr' + st * (i : Int))]) := ms
  clear MT ms mb3
  generalize mgN ⟨fr, st, l⟩ ⟨fr', st, l'⟩ = N at *
  have mea' : -68719476736 ≤ ea ∧ ea ≤ 68719476736 := by rw [hea]; exact mea
  have meb' : -68719476736 ≤ eb ∧ eb ≤ 68719476736 := by rw [heb]; exact meb
  have x1 := IntWalk.i64_in (fr - fr') (by omega)
  have x2 : IntKind.i64.wrap ((fr - fr').tmod st) = 0 := by rw [h0]; decide
  have x3 := IntWalk.i64_in (ea - fr') (by omega)
  have x4 : (ea - fr').tdiv st = (N : Int) := by rw [Int.tdiv_eq_ediv_of_nonneg mb0, mb3']
  have x5 : IntKind.i64.wrap ((ea - fr').tdiv st) = (N : Int) := by rw [x4]; exact IntWalk.i64_in _ (by omega)
  have x6 : IntKind.i64.wrap (N : Int) = (N : Int) := IntWalk.i64_in _ (by omega)
  have x7 : decide ((10000 : Int) < (N : Int)) = false := decide_eq_false (by omega)
  have x8 : decide (10000 < N) = false := decide_eq_false (by omega)
  have q5 : (st == 0) = false := beq_eq_false_iff_ne.2 (by omega)
  have q6 : ¬ st = 0 := by omega
  have HB0 := hide (And.intro v1 (And.intro f1 (And.intro f2 mf)))
  have HS := hide hs
  have HT := hide ht
  have X := (((Own.start w).alloc #[.int .i64 fr, .int .i64 st, .slice A l.length c] 24).alloc #[.int .i64 fr', .int .i64 st, .slice A' l'.length c'] 24).alloc #[.int .i64 0, .int .i64 0, .slice none 0 0] 24
  simp only [World.size_alloc] at X
  clear hs ht hv1 hv2 va vb f1 f2 v1 mf mea meb mb0 mb1 mb2 mb3' e0 f0 EA EB hea heb mea' meb'
  have hr := X.r3
  go_enter Try.func29, Try.ntmps29
  go_wp2_with fail
  refine (VA.out _ (HS.out.below X.1)).mono ?_
  rintro e w1 ⟨rfl, hb⟩
  replace X := X.to hb
  clear hb hr VA
  have hr := X.r3
  go_wp2_with fail
  refine (VB.out _ (HT.out.below X.1)).mono ?_
  rintro e w1 ⟨rfl, hb⟩
  replace X := X.to hb
  clear hb hr VB
  have hr := X.r3
  go_wp2_with fail
  have lt1 : w.heap.size + 1 + 1 < w1.heap.size := X.r1.2.2
  replace X := X.alloc #[.int .i64 fr', .int .i64 st, .slice none 0 0] 24
  clear hr
  have HX := hide X
  have NE : Nonempty (OwnW w [(w1.heap.size, 24, #[.int .i64 fr', .int .i64 st, .slice none 0 0]), (w.heap.size + 1 + 1, 24, #[.int .i64 0, .int .i64 0, .slice none 0 0]), (w.heap.size + 1, 24, #[.int .i64 fr', .int .i64 st, .slice A' l'.length c']), (w.heap.size, 24, #[.int .i64 fr, .int .i64 st, .slice A l.length c])]) := ⟨⟨_, X⟩⟩
  have C1 := fun x : OwnW w [(w1.heap.size, 24, #[.int .i64 fr', .int .i64 st, .slice none 0 0]), (w.heap.size + 1 + 1, 24, #[.int .i64 0, .int .i64 0, .slice none 0 0]), (w.heap.size + 1, 24, #[.int .i64 fr', .int .i64 st, .slice A' l'.length c']), (w.heap.size, 24, #[.int .i64 fr, .int .i64 st, .slice A l.length c])] => x.own.r4
  clear X
  refine wp_region_own (w := w) (L := [(w1.heap.size, 24, #[.int .i64 fr', .int .i64 st, .slice none 0 0]), (w.heap.size + 1 + 1, 24, #[.int .i64 0, .int .i64 0, .slice none 0 0]), (w.heap.size + 1, 24, #[.int .i64 fr', .int .i64 st, .slice A' l'.length c']), (w.heap.size, 24, #[.int .i64 fr, .int .i64 st, .slice A l.length c])]) (by kernel_rfl) (by kernel_rfl) HX.out ?_
  repeat (go_big_quiet_step ((rename_i x; first | (with_reducible exact own_call (EAH.out _)) | (with_reducible exact own_call (EBH.out _)))))
  refine wpQuiet_nil ?_
  rintro W ⟨⟨W2, HX2⟩, hx⟩
  have hx' : W = W2 := hx
  subst hx'
  have X := HX2
  clear HX2 HX C1 NE hx
  have loW : w1.heap.size < W.heap.size := X.r1.2.2
  have G0 : Gat w W W.heap.size w1.heap.size fr' st [(w.heap.size + 1 + 1, 24, #[.int .i64 0, .int .i64 0, .slice none 0 0]), (w.heap.size + 1, 24, #[.int .i64 fr', .int .i64 st, .slice A' l'.length c']), (w.heap.size, 24, #[.int .i64 fr, .int .i64 st, .slice A l.length c])] [] (.slice none 0 0) 0 (mgL ⟨fr, st, l⟩ ⟨fr', st, l'⟩ 0) := by
    refine ⟨X, by rw [MG0.out]; exact World.ownsRow_nil _ _ _ _, fun p hp => by simp at hp, ⟨Nat.le_refl _, X.1.size, by omega⟩, ?_, ?_⟩
    · intro x hx
      simp only [List.mem_cons, List.not_mem_nil, or_false] at hx
      rcases hx with rfl | rfl | rfl
      · show (3 : TypeId) ≠ 24; decide
      · show (3 : TypeId) ≠ 24; decide
      · show (3 : TypeId) ≠ 24; decide
    · intro x hx
      simp only [List.mem_cons, List.not_mem_nil, or_false] at hx
      rcases hx with rfl | rfl | rfl
      · show w.heap.size + 1 + 1 ≠ w1.heap.size; omega
      · show w.heap.size + 1 ≠ w1.heap.size; omega
      · show w.heap.size ≠ w1.heap.size; omega
  have GH := hide G0
  clear G0
  have hr := X.r4
  go_wp2
  clear hr X
  go_loopw [8, 9, 10, 60] (fun v8 v9 v10 v60 wr => ∃ (i : Nat) (v : Value), i ≤ N ∧ v60 = .int .i64 (i : Int) ∧ Hid (Gat w wr W.heap.size w1.heap.size fr' st [(w.heap.size + 1 + 1, 24, #[.int .i64 0, .int .i64 0, .slice none 0 0]), (w.heap.size + 1, 24, #[.int .i64 fr', .int .i64 st, .slice A' l'.length c']), (w.heap.size, 24, #[.int .i64 fr, .int .i64 st, .slice A l.length c])] [] v i (mgL ⟨fr, st, l⟩ ⟨fr', st, l'⟩ i))) (fun _ _ _ v60 _ => N - (intOf v60).toNat)
  case atStart => exact ⟨0, .slice none 0 0, by omega, rfl, GH⟩
  case round =>
    obtain ⟨i, v, hi, rfl, Y⟩ := hrel
    obtain ⟨j0, hj0, hz0, hz1, hz2⟩ := info_parts int_info17
    by_cases hlt : i < N
    · obtain ⟨t1, t2, t3, t4⟩ := MT'.out i hlt
      obtain ⟨p, hp⟩ : ∃ p, p = st * (i : Int) := ⟨_, rfl⟩
      obtain ⟨T, hT⟩ : ∃ T, T = fr' + p := ⟨_, rfl⟩
      rw [← hp] at t1 t2 t3 t4
      rw [← hT] at t3 t4
      have s1 : IntKind.i64.wrap (st * (i : Int)) = p := by rw [← hp]; exact IntWalk.i64_in _ (by omega)
      have s2 : IntKind.i64.wrap (fr' + p) = T := by rw [← hT]; exact IntWalk.i64_in _ (by omega)
      have E1 := ms'.out i
      rw [← hp, ← hT] at E1
      have E1 := hide E1
      have EV := hide (AV.out T)
      have CA := hide (AT.out wr T (HS.out.below Y.out.own.1) ⟨t3, t4⟩)
      have CB := hide (fun W (h : SerSl W ⟨fr', st, l'⟩ ⟨A', c'⟩) => BT.out W T h ⟨t3, t4⟩)
      have hr := Y.out.own.r4
      rename_i E0
      clear E0 hp hT t1 t2 t3 t4
      generalize mgL ⟨fr, st, l⟩ ⟨fr', st, l'⟩ i = L0 at *
      generalize hd : mgV ⟨fr, st, l⟩ ⟨fr', st, l'⟩ T = d at *
      generalize atS ⟨fr, st, l⟩ T = u1 at *
      generalize atS ⟨fr', st, l'⟩ T = u2 at *
      clear hd
      by_cases e : u1 = -1
      · have ED : Hid (d = u2) := hide (EV.out.trans (if_pos e))
        subst e
        clear EV
        go_wp2_with fail
        refine CA.out.mono ?_
        rintro e w4 ⟨rfl, hb4⟩
        have Y4 := hide (Y.out.to hb4)
        clear hr CA
        have hr := Y4.out.own.r4
        go_wp2_with fail
        refine (CB.out _ (HT.out.below Y4.out.own.1)).mono ?_
        rintro e w5 ⟨rfl, hb5⟩
        have hb0 := hb4.trans (hb5.mono hb4.size)
        clear hb4 hb5 CB Y4
        have f0' : (0 : Nat) < 1 := by decide
        have f1 : i + 1 ≤ maxLen := by unfold maxLen; omega
        have f2 : (i + 1) * 8 ≤ 140737488355328 := by omega
        have f4 : ∀ u ∈ [Value.int .i64 u2], u.oneCell' = true := by intro u hu; simp at hu; subst hu; rfl
        have Y3 := hide (Y.out.to hb0)
        have hr3 := Y3.out.own.r4
        clear hb0 hr
        go_wp2_with (at_builtin; refine wpList_append_lies _ rfl _ _ 22 rfl W.heap.size 3 j0 (.int .i64 0) 1 8 Try.underlying22 hj0 hz0 hz1 hz2 rfl (by decide) _ i (L0.map (Value.int .i64)) rfl (Y3.out.row.alloc (.cells #[.int .i64 u2] 3)) ⟨w5.heap.size, 0, none⟩ 1 1 [.int .i64 u2] rfl rfl (World.news_of_block (cs := #[.int .i64 u2]) (t := 3) (fr := (0, 0)) (heap_alloc_new w5 _)) f4 f0' f1 f2 (by have := Y3.out.b2.1; simp; omega) (w5.heap.size + 1) (by simp) ?_; intro gg cp w6 hown6 hgrow hat6 hlt6; have hr6 := ((Y3.out.alloc (.cells #[.int .i64 u2] 3)).grown hgrow).r4)
        have Y5 := hide ((Y3.out.alloc (.cells #[.int .i64 u2] 3)).app (L4 := L0 ++ [u2]) (by rw [List.map_append]; exact hown6) hgrow)
        clear Y3 hown6 hgrow hr6 hr3
        go_roundw
        case rel => exact ⟨i + 1, _, by omega, by go_num, by rw [E1.out, ED.out]; exact Y5⟩
        case measure => simp [intOf]; omega
      · have ED : Hid (d = u1) := hide (EV.out.trans (if_neg e))
        have e1 : (u1 == -1) = false := beq_eq_false_iff_ne.2 e
        clear EV e
        go_wp2_with fail
        refine CA.out.mono ?_
        rintro e w5 ⟨rfl, hb0⟩
        clear CA CB
        have f0' : (0 : Nat) < 1 := by decide
        have f1 : i + 1 ≤ maxLen := by unfold maxLen; omega
        have f2 : (i + 1) * 8 ≤ 140737488355328 := by omega
        have f4 : ∀ u ∈ [Value.int .i64 u1], u.oneCell' = true := by intro u hu; simp at hu; subst hu; rfl
        have Y3 := hide (Y.out.to hb0)
        have hr3 := Y3.out.own.r4
        clear hb0 hr
        go_wp2_with (at_builtin; refine wpList_append_lies _ rfl _ _ 22 rfl W.heap.size 3 j0 (.int .i64 0) 1 8 Try.underlying22 hj0 hz0 hz1 hz2 rfl (by decide) _ i (L0.map (Value.int .i64)) rfl (Y3.out.row.alloc (.cells #[.int .i64 u1] 3)) ⟨w5.heap.size, 0, none⟩ 1 1 [.int .i64 u1] rfl rfl (World.news_of_block (cs := #[.int .i64 u1]) (t := 3) (fr := (0, 0)) (heap_alloc_new w5 _)) f4 f0' f1 f2 (by have := Y3.out.b2.1; simp; omega) (w5.heap.size + 1) (by simp) ?_; intro gg cp w6 hown6 hgrow hat6 hlt6; have hr6 := ((Y3.out.alloc (.cells #[.int .i64 u1] 3)).grown hgrow).r4)
        have Y5 := hide ((Y3.out.alloc (.cells #[.int .i64 u1] 3)).app (L4 := L0 ++ [u1]) (by rw [List.map_append]; exact hown6) hgrow)
        clear Y3 hown6 hgrow hr6 hr3
        go_roundw
        case rel => exact ⟨i + 1, _, by omega, by go_num, by rw [E1.out, ED.out]; exact Y5⟩
        case measure => simp [intOf]; omega
    · obtain rfl : i = N := by omega
      have hN := MLN.out i
      have bd := MBD.out i
      obtain ⟨g', cp, rfl⟩ : ∃ A c, v = .slice A i c := by
        rcases Y.out.row.2 with ⟨rfl, h0⟩ | ⟨g, cap, _, rfl, _⟩
        · subst h0; exact ⟨none, 0, rfl⟩
        · exact ⟨_, cap, rfl⟩
      have PO := hide (fun x y z => Y.out.post (rb := w.heap.size + 1 + 1) (List.mem_cons_self ..) (by omega) x y z bd (by omega) (by have := HB0.out.2; omega) (by have := HB0.out.1; omega))
      have hr := Y.out.own.r4
      clear bd hN
      go_wp2
      refine bodyPost_ret (v := .tuple #[.agg #[.int .i64 fr', .int .i64 st, .slice g' i cp], .int .i64 0]) ?_ rfl ?_
      · simp [results, Try.results29, hr, go_sem]
      · exact PO.out _ _ _
end Go.Proofs.Ytkbocphpnmpaeaa
