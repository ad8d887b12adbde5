/- GaugeGreater: the law's main way (printed by gen_greater.py). -/
import Derived.Test.YtkbocphpnmpaeaaGgGre0
import Derived.Deep.QuietTactic
import Derived.BigQuiet
namespace Go.Proofs.Ytkbocphpnmpaeaa
open Go.RowKit

set_option maxRecDepth 100000 in
set_option maxHeartbeats 4000000 in
theorem greater_main (s : Ser) (q : SerA) (an bn : Nat) (w : World) (hs : SerSl w s q) (hA : q.A = none → q.c = 0) (ha : an ≤ 255) (hb255 : bn ≤ 255) (hn : s.ds.length ≤ 200) (hv : vS s = true) (h0 : 0 < s.ds.length) :
    Calls Try.prog 5 #[s.val q, .int .u8 (an : Int), .int .u8 (bn : Int)] w (BPost true w) := by
  obtain ⟨A, c⟩ := q
  have X := (Own.start w).alloc #[.int .i64 s.fr, .int .i64 s.st, .slice A s.ds.length c] 24
  have HS := hide hs
  have HAC := hide hA
  have n1 : (0 : Int) ≤ (s.ds.length : Int) := by omega
  clear hs hA
  obtain ⟨fr, st, l⟩ := s
  have hn' : l.length ≤ 200 := hn
  have h0' : 0 < l.length := h0
  have v := vS_iff.1 hv
  have PB := hide (fun i hi => ps_le (fun i hi => (v.ok i hi).2) i hi)
  obtain ⟨i, ei⟩ : ∃ i : Nat, i = 1 + an % l.length := ⟨_, rfl⟩
  obtain ⟨k, ek⟩ : ∃ k : Nat, k = 1 + bn % l.length := ⟨_, rfl⟩
  have ra := Nat.mod_lt an h0'
  have rb := Nat.mod_lt bn h0'
  have m1 : (an : Int).tmod (l.length : Int) = ((an % l.length : Nat) : Int) := by rw [Int.tmod_eq_emod_of_nonneg (by omega)]; first | exact (Int.natCast_emod _ _).symm | exact (Int.ofNat_emod _ _).symm | rfl
  have m2 : (bn : Int).tmod (l.length : Int) = ((bn % l.length : Nat) : Int) := by rw [Int.tmod_eq_emod_of_nonneg (by omega)]; first | exact (Int.natCast_emod _ _).symm | exact (Int.ofNat_emod _ _).symm | rfl
  have w1 : IntKind.i64.wrap ((an : Int).tmod (l.length : Int)) = ((an % l.length : Nat) : Int) := by rw [m1]; exact IntWalk.i64_in _ (by omega)
  have w2 : IntKind.i64.wrap ((bn : Int).tmod (l.length : Int)) = ((bn % l.length : Nat) : Int) := by rw [m2]; exact IntWalk.i64_in _ (by omega)
  have w3 : IntKind.i64.wrap (1 + ((an % l.length : Nat) : Int)) = (i : Int) := (IntWalk.i64_in _ (by omega)).trans (by omega)
  have w4 : IntKind.i64.wrap (1 + ((bn % l.length : Nat) : Int)) = (k : Int) := (IntWalk.i64_in _ (by omega)).trans (by omega)
  have w5 := IntWalk.i64_in (an : Int) (by omega)
  have w6 := IntWalk.i64_in (bn : Int) (by omega)
  have i1 : 1 ≤ i ∧ i ≤ l.length := by omega
  have k1 : 1 ≤ k ∧ k ≤ l.length := by omega
  have z1 : ((l.length : Int) == 0) = false := beq_eq_false_iff_ne.2 (by omega)
  have z2 : ¬ (l.length : Int) = 0 := by omega
  have z3 : ¬ l = [] := fun h => by rw [h] at h0'; simp at h0'
  have z4 : l.isEmpty = false := by cases l with | nil => exact absurd rfl z3 | cons x m => rfl
  generalize an % l.length = ar at *
  generalize bn % l.length = br at *
  clear ei ek
  have GI := hide (fun W (h : SerSl W ⟨fr, st, l⟩ ⟨A, c⟩) => greatest_in ⟨fr, st, l⟩ ⟨A, c⟩ i W h hv i1.1 i1.2)
  have GK := hide (fun W (h : SerSl W ⟨fr, st, l⟩ ⟨A, c⟩) => greatest_in ⟨fr, st, l⟩ ⟨A, c⟩ k W h hv k1.1 k1.2)
  have GS := hide (fun (h : i + k ≤ l.length) W (h' : SerSl W ⟨fr, st, l⟩ ⟨A, c⟩) => greatest_in ⟨fr, st, l⟩ ⟨A, c⟩ (i + k) W h' hv (by omega) h)
  have TA := hide (fun (h : i + k ≤ l.length) => gm_adds l i1.1 k1.1 h)
  have TI := (gm_top l i1.1 l.length).1 i1.2
  have TK := ((gm_top l k1.1 l.length).1 k1.2).1
  have TG := hide (fun (h : i ≤ k) => gm_grows l i1.1 h k1.2)
  have bI := gm_bd l i l.length
  have bK := gm_bd l k l.length
  have pa := PB.out l.length (Nat.le_refl _)
  have pn := ps_nonneg l l.length
  have p0 := ps_nonneg l (gf l i l.length)
  have pm := ps_mono l TI.1
  have WV := winS_valid (s := ⟨fr, st, l⟩) (a := gf l i l.length) (b := gf l i l.length + i) (by omega) TI.1 v
  have WI := hide (fun W h => window_in ⟨fr, st, l⟩ ⟨A, c⟩ (gf l i l.length) (gf l i l.length + i) W h HAC.out hv (by omega) TI.1)
  have WT := hide (show ps (winL l (gf l i l.length) (gf l i l.length + i)) (winL l (gf l i l.length) (gf l i l.length + i)).length = gm l i l.length by rw [winL_length (by omega) TI.1, ps_win _ (by omega), TI.2, show gf l i l.length + i - gf l i l.length = i by omega])
  have WVH := hide (vS_iff.2 WV)
  have WL := winL_length (l := l) (a := gf l i l.length) (b := gf l i l.length + i) (by omega) TI.1
  have xt : gm l i l.length ≤ ps l l.length := by rw [TI.2]; omega
  have TI1 := TI.1
  have MT := hide (massL_at l (i := l.length - 1) (by omega))
  rw [show l.length - 1 + 1 = l.length by omega] at MT
  have MS : Hid (∀ i, i + 1 < (massL l).length → (massL l).getD i 0 ≤ (massL l).getD (i + 1) 0) := hide (fun i hi => by
    rw [massL_length] at hi
    rw [massL_at l (by omega), massL_at l hi]
    exact ps_mono l (by omega))
  have ML := hide (massL_length l)
  clear WV TI pm p0 h0 hn
  generalize hG : gm l i l.length = G at *
  generalize hK : gm l k l.length = K at *
  generalize hP : gf l i l.length = P at *
  generalize hQ : gf l k l.length = Q at *
  generalize hT : ps l l.length = T at *
  have HH := hide (And.intro hG (And.intro hK (And.intro hP (And.intro hQ hT))))
  clear hG hK hP hQ hT
  have GB : G ≤ 4194304 * 200 ∧ K ≤ 4194304 * 200 := by omega
  have s1 : IntKind.i64.wrap ((P : Int) + (i : Int)) = ((P + i : Nat) : Int) := (IntWalk.i64_in _ (by omega)).trans (by omega)
  have s2 : IntKind.i64.wrap ((Q : Int) + (k : Int)) = ((Q + k : Nat) : Int) := (IntWalk.i64_in _ (by omega)).trans (by omega)
  have s3 : IntKind.i64.wrap ((i : Int) + (k : Int)) = ((i + k : Nat) : Int) := (IntWalk.i64_in _ (by omega)).trans (by omega)
  have s4 := IntWalk.i64_in (G + K) (by omega)
  have s5 : IntKind.i64.wrap ((l.length : Int) - 1) = ((l.length - 1 : Nat) : Int) := (IntWalk.i64_in _ (by omega)).trans (by omega)
  have c1 : decide ((P : Int) < 0) = false := decide_eq_false (by omega)
  have c2 : decide ((Q : Int) < 0) = false := decide_eq_false (by omega)
  have c3 : decide ((l.length : Int) < ((P + i : Nat) : Int)) = false := decide_eq_false (by omega)
  have c4 : decide ((l.length : Int) < ((Q + k : Nat) : Int)) = false := decide_eq_false (by omega)
  have c5 : decide (G ≤ T) = true := decide_eq_true xt
  have g1 : (0 : Int) ≤ ((l.length - 1 : Nat) : Int) := by omega
  have g2 : ((l.length - 1 : Nat) : Int) < (l.length : Int) := by omega
  have l1 : l.length - 1 < l.length := by omega
  have HC := hide (And.intro bI (And.intro bK (And.intro pa (And.intro pn (And.intro xt GB)))))
  clear bI bK pa pn xt GB
  generalize hPi : P + i = Pi at *
  generalize hQk : Q + k = Qk at *
  generalize hik : i + k = ik at *
  have HE := hide (And.intro hPi (And.intro hQk hik))
  clear hPi hQk hik
  have hr := X.r1
  go_enter Try.func5, Try.ntmps5
  go_wp2_with fail
  refine (awake_any _).mono ?_
  rintro e wz ⟨rfl, hb⟩
  replace X := X.to hb
  clear hb hr
  have hr := X.r1
  have XB := X.alloc #[.int .i64 fr, .int .i64 st, .slice A l.length c] 24
  go_wp2_with fail
  refine (few_one ⟨fr, st, l⟩ ⟨A, c⟩ _ _ (XB.2 _ (List.mem_cons_self ..))).mono ?_
  rintro e wz ⟨rfl, hb⟩
  rw [long_no hn']
  replace X := (XB.to hb).tail
  clear hb hr XB
  have hr := X.r1
  go_wp2_with fail
  refine (gvalid_any ⟨fr, st, l⟩ ⟨A, c⟩ _ (HS.out.below X.1)).mono ?_
  rintro e wz ⟨rfl, hb⟩
  rw [hv]
  replace X := X.to hb
  clear hb hr
  have hr := X.r1
  go_wp2_with fail
  have HZ := hide (And.intro c1 (And.intro c2 (And.intro c3 (And.intro c4 (And.intro c5 (And.intro s1 (And.intro s2 (And.intro s3 (And.intro s4 s5)))))))))
  clear c1 c2 c3 c4 c5 s1 s2 s3 s4 s5
  have HY := hide (And.intro WL (And.intro TI1 (And.intro TK (And.intro i1 (And.intro k1 (And.intro g1 (And.intro g2 l1)))))))
  clear WL TI1 TK i1 k1 g1 g2 l1 ha hb255
  have v5 : IntKind.i64.wrap (ar : Int) = (ar : Int) := IntWalk.i64_in _ (by omega)
  go_region_held3 (fun w' => w'.cell? ⟨w.heap.size, 2, none⟩ = some (.slice A l.length c)) (go_keep) (fail)
  clear v5
  replace X := X.drew
  clear hr
  generalize World.drew _ = W at *
  have hr := X.r1
  go_wp2_with fail
  refine (GI.out _ (HS.out.below X.1)).mono ?_
  rintro e wz ⟨rfl, hb⟩
  replace X := X.to hb
  clear hb hr
  have hr := X.r1
  go_wp2_with fail
  refine (GK.out _ (HS.out.below X.1)).mono ?_
  rintro e wz ⟨rfl, hb⟩
  replace X := X.to hb
  clear hb hr
  have hr := X.r1
  obtain ⟨c1, c2, c3, c4, c5, s1, s2, s3, s4, s5⟩ := HZ.out
  obtain ⟨WL, TI1, TK, i1, k1, g1, g2, l1⟩ := HY.out
  have c3n : decide (l.length < Pi) = false := decide_eq_false (by omega)
  have c4n : decide (l.length < Qk) = false := decide_eq_false (by omega)
  by_cases hle : i ≤ k
  · have e1 : decide ((i : Int) ≤ (k : Int)) = true := decide_eq_true (by omega)
    have e1n : decide (i ≤ k) = true := decide_eq_true hle
    have e2 : decide (K < G) = false := decide_eq_false (by have := TG.out hle; omega)
    clear TG
    go_wp2_with fail
    refine (WI.out _ (HS.out.below X.1)).mono ?_
    intro e wy hq
    obtain ⟨hb, A3, c3, rfl, hs3⟩ := SerPost.out (show SerPost ⟨fr + st * (P : Int), st, winL l P Pi⟩ 0 _ e wy from hq)
    replace X := (X.to hb).alloc #[.int .i64 (fr + st * (P : Int)), .int .i64 st, .slice A3 (winL l P Pi).length c3] 24
    have HW := hide (SerSl.below hs3 ((Below.refl wy.heap.size wy).alloc (Nat.le_refl _) (.cells #[.int .i64 (fr + st * (P : Int)), .int .i64 st, .slice A3 (winL l P Pi).length c3] 24)))
    have TW := hide (fun W h => total_in ⟨fr + st * (P : Int), st, winL l P Pi⟩ ⟨A3, c3⟩ W h WVH.out)
    rw [show (⟨fr + st * (P : Int), st, winL l P Pi⟩ : Ser).ds = winL l P Pi from rfl, WT.out] at TW
    replace TW : Hid (∀ W, SerSl W ⟨fr + st * (P : Int), st, winL l P Pi⟩ ⟨A3, c3⟩ → Calls Try.prog 13 #[.agg #[.int .i64 (fr + st * (P : Int)), .int .i64 st, .slice A3 (winL l P Pi).length c3]] W (GrPost G (ms (winL l P Pi) (winL l P Pi).length) 0 W)) := TW
    clear hb hr hq hs3 WL
    have hr := X.r2
    generalize ms (winL l P Pi) (winL l P Pi).length = M0 at *
    generalize (winL l P Pi).length = N3 at *
    generalize fr + st * (P : Int) = q0 at *
    go_wp2_with fail
    refine (TW.out _ HW.out).mono ?_
    rintro e wz ⟨rfl, hb⟩
    replace X := X.to hb
    clear hb hr TW HW
    have hr := X.r2
    by_cases hf : ik ≤ l.length
    · have f1 : decide ((ik : Int) ≤ (l.length : Int)) = true := decide_eq_true (by omega)
      have f1n : decide (ik ≤ l.length) = true := decide_eq_true hf
      have f2 : decide (G + K < gm l ik l.length) = false := decide_eq_false (by have := TA.out hf; omega)
      go_wp2_with fail
      refine (GS.out hf _ (HS.out.below X.1)).mono ?_
      rintro e wz ⟨rfl, hb⟩
      generalize hGS : gm (⟨fr, st, l⟩ : Ser).ds ik (⟨fr, st, l⟩ : Ser).ds.length = GG at *
      try rw [show gm l ik l.length = GG from hGS] at f2
      clear hGS GS TA
      generalize gf (⟨fr, st, l⟩ : Ser).ds ik (⟨fr, st, l⟩ : Ser).ds.length = FF at *
      replace X := X.to hb
      clear hb hr
      have hr := X.r2
      go_wp2_with fail
      refine (mass_in ⟨fr, st, l⟩ ⟨A, c⟩ _ (HS.out.below X.1) hv).mono ?_
      rintro e wz ⟨hb, A4, c4', rfl, hm, _⟩
      have HM : Hid (IntSl wz A4 (massL l)) := hide hm
      clear hm
      rw [show (massL (⟨fr, st, l⟩ : Ser).ds).length = l.length from ML.out]
      replace X := X.to hb
      clear hb hr
      have hr := X.r2
      go_wp2_with fail
      refine (total_in ⟨fr, st, l⟩ ⟨A, c⟩ _ (HS.out.below X.1) hv).mono ?_
      rintro e wz ⟨rfl, hb⟩
      rw [show ps (⟨fr, st, l⟩ : Ser).ds (⟨fr, st, l⟩ : Ser).ds.length = T from HH.out.2.2.2.2]
      replace X := X.to hb
      replace HM := hide (HM.out.below hb)
      clear hb hr
      have hr := X.r2
      obtain ⟨gb, go_, rfl, gbl, gat⟩ := HM.out.atg (by rw [ML.out]; exact h0')
      have cm := gat (l.length - 1) (by rw [ML.out]; exact l1)
      rw [MT.out] at cm
      have ST := fun W (h : IntSl W (some ⟨gb, go_, none⟩) (massL l)) => sorted_any (massL l) (some ⟨gb, go_, none⟩) c4' W h MS.out
      rw [ML.out] at ST
      have STH := hide ST
      clear gat ST
      generalize ms (⟨fr, st, l⟩ : Ser).ds (⟨fr, st, l⟩ : Ser).ds.length = M1 at *
      go_wp2_with fail
      refine (STH.out _ HM.out).mono ?_
      rintro e wz ⟨rfl, hb⟩
      replace X := X.to hb
      clear hb hr
      go_wp2
      go_ret
      exact ⟨rfl, X.1⟩
    · have f1 : decide ((ik : Int) ≤ (l.length : Int)) = false := decide_eq_false (by omega)
      have f1n : decide (ik ≤ l.length) = false := decide_eq_false hf
      clear GS TA
      go_wp2_with fail
      refine (mass_in ⟨fr, st, l⟩ ⟨A, c⟩ _ (HS.out.below X.1) hv).mono ?_
      rintro e wz ⟨hb, A4, c4', rfl, hm, _⟩
      have HM : Hid (IntSl wz A4 (massL l)) := hide hm
      clear hm
      rw [show (massL (⟨fr, st, l⟩ : Ser).ds).length = l.length from ML.out]
      replace X := X.to hb
      clear hb hr
      have hr := X.r2
      go_wp2_with fail
      refine (total_in ⟨fr, st, l⟩ ⟨A, c⟩ _ (HS.out.below X.1) hv).mono ?_
      rintro e wz ⟨rfl, hb⟩
      rw [show ps (⟨fr, st, l⟩ : Ser).ds (⟨fr, st, l⟩ : Ser).ds.length = T from HH.out.2.2.2.2]
      replace X := X.to hb
      replace HM := hide (HM.out.below hb)
      clear hb hr
      have hr := X.r2
      obtain ⟨gb, go_, rfl, gbl, gat⟩ := HM.out.atg (by rw [ML.out]; exact h0')
      have cm := gat (l.length - 1) (by rw [ML.out]; exact l1)
      rw [MT.out] at cm
      have ST := fun W (h : IntSl W (some ⟨gb, go_, none⟩) (massL l)) => sorted_any (massL l) (some ⟨gb, go_, none⟩) c4' W h MS.out
      rw [ML.out] at ST
      have STH := hide ST
      clear gat ST
      generalize ms (⟨fr, st, l⟩ : Ser).ds (⟨fr, st, l⟩ : Ser).ds.length = M1 at *
      go_wp2_with fail
      refine (STH.out _ HM.out).mono ?_
      rintro e wz ⟨rfl, hb⟩
      replace X := X.to hb
      clear hb hr
      go_wp2
      go_ret
      exact ⟨rfl, X.1⟩
  · have e1 : decide ((i : Int) ≤ (k : Int)) = false := decide_eq_false (by omega)
    have e1n : decide (i ≤ k) = false := decide_eq_false hle
    clear TG
    go_wp2_with fail
    refine (WI.out _ (HS.out.below X.1)).mono ?_
    intro e wy hq
    obtain ⟨hb, A3, c3, rfl, hs3⟩ := SerPost.out (show SerPost ⟨fr + st * (P : Int), st, winL l P Pi⟩ 0 _ e wy from hq)
    replace X := (X.to hb).alloc #[.int .i64 (fr + st * (P : Int)), .int .i64 st, .slice A3 (winL l P Pi).length c3] 24
    have HW := hide (SerSl.below hs3 ((Below.refl wy.heap.size wy).alloc (Nat.le_refl _) (.cells #[.int .i64 (fr + st * (P : Int)), .int .i64 st, .slice A3 (winL l P Pi).length c3] 24)))
    have TW := hide (fun W h => total_in ⟨fr + st * (P : Int), st, winL l P Pi⟩ ⟨A3, c3⟩ W h WVH.out)
    rw [show (⟨fr + st * (P : Int), st, winL l P Pi⟩ : Ser).ds = winL l P Pi from rfl, WT.out] at TW
    replace TW : Hid (∀ W, SerSl W ⟨fr + st * (P : Int), st, winL l P Pi⟩ ⟨A3, c3⟩ → Calls Try.prog 13 #[.agg #[.int .i64 (fr + st * (P : Int)), .int .i64 st, .slice A3 (winL l P Pi).length c3]] W (GrPost G (ms (winL l P Pi) (winL l P Pi).length) 0 W)) := TW
    clear hb hr hq hs3 WL
    have hr := X.r2
    generalize ms (winL l P Pi) (winL l P Pi).length = M0 at *
    generalize (winL l P Pi).length = N3 at *
    generalize fr + st * (P : Int) = q0 at *
    go_wp2_with fail
    refine (TW.out _ HW.out).mono ?_
    rintro e wz ⟨rfl, hb⟩
    replace X := X.to hb
    clear hb hr TW HW
    have hr := X.r2
    by_cases hf : ik ≤ l.length
    · have f1 : decide ((ik : Int) ≤ (l.length : Int)) = true := decide_eq_true (by omega)
      have f1n : decide (ik ≤ l.length) = true := decide_eq_true hf
      have f2 : decide (G + K < gm l ik l.length) = false := decide_eq_false (by have := TA.out hf; omega)
      go_wp2_with fail
      refine (GS.out hf _ (HS.out.below X.1)).mono ?_
      rintro e wz ⟨rfl, hb⟩
      generalize hGS : gm (⟨fr, st, l⟩ : Ser).ds ik (⟨fr, st, l⟩ : Ser).ds.length = GG at *
      try rw [show gm l ik l.length = GG from hGS] at f2
      clear hGS GS TA
      generalize gf (⟨fr, st, l⟩ : Ser).ds ik (⟨fr, st, l⟩ : Ser).ds.length = FF at *
      replace X := X.to hb
      clear hb hr
      have hr := X.r2
      go_wp2_with fail
      refine (mass_in ⟨fr, st, l⟩ ⟨A, c⟩ _ (HS.out.below X.1) hv).mono ?_
      rintro e wz ⟨hb, A4, c4', rfl, hm, _⟩
      have HM : Hid (IntSl wz A4 (massL l)) := hide hm
      clear hm
      rw [show (massL (⟨fr, st, l⟩ : Ser).ds).length = l.length from ML.out]
      replace X := X.to hb
      clear hb hr
      have hr := X.r2
      go_wp2_with fail
      refine (total_in ⟨fr, st, l⟩ ⟨A, c⟩ _ (HS.out.below X.1) hv).mono ?_
      rintro e wz ⟨rfl, hb⟩
      rw [show ps (⟨fr, st, l⟩ : Ser).ds (⟨fr, st, l⟩ : Ser).ds.length = T from HH.out.2.2.2.2]
      replace X := X.to hb
      replace HM := hide (HM.out.below hb)
      clear hb hr
      have hr := X.r2
      obtain ⟨gb, go_, rfl, gbl, gat⟩ := HM.out.atg (by rw [ML.out]; exact h0')
      have cm := gat (l.length - 1) (by rw [ML.out]; exact l1)
      rw [MT.out] at cm
      have ST := fun W (h : IntSl W (some ⟨gb, go_, none⟩) (massL l)) => sorted_any (massL l) (some ⟨gb, go_, none⟩) c4' W h MS.out
      rw [ML.out] at ST
      have STH := hide ST
      clear gat ST
      generalize ms (⟨fr, st, l⟩ : Ser).ds (⟨fr, st, l⟩ : Ser).ds.length = M1 at *
      go_wp2_with fail
      refine (STH.out _ HM.out).mono ?_
      rintro e wz ⟨rfl, hb⟩
      replace X := X.to hb
      clear hb hr
      go_wp2
      go_ret
      exact ⟨rfl, X.1⟩
    · have f1 : decide ((ik : Int) ≤ (l.length : Int)) = false := decide_eq_false (by omega)
      have f1n : decide (ik ≤ l.length) = false := decide_eq_false hf
      clear GS TA
      go_wp2_with fail
      refine (mass_in ⟨fr, st, l⟩ ⟨A, c⟩ _ (HS.out.below X.1) hv).mono ?_
      rintro e wz ⟨hb, A4, c4', rfl, hm, _⟩
      have HM : Hid (IntSl wz A4 (massL l)) := hide hm
      clear hm
      rw [show (massL (⟨fr, st, l⟩ : Ser).ds).length = l.length from ML.out]
      replace X := X.to hb
      clear hb hr
      have hr := X.r2
      go_wp2_with fail
      refine (total_in ⟨fr, st, l⟩ ⟨A, c⟩ _ (HS.out.below X.1) hv).mono ?_
      rintro e wz ⟨rfl, hb⟩
      rw [show ps (⟨fr, st, l⟩ : Ser).ds (⟨fr, st, l⟩ : Ser).ds.length = T from HH.out.2.2.2.2]
      replace X := X.to hb
      replace HM := hide (HM.out.below hb)
      clear hb hr
      have hr := X.r2
      obtain ⟨gb, go_, rfl, gbl, gat⟩ := HM.out.atg (by rw [ML.out]; exact h0')
      have cm := gat (l.length - 1) (by rw [ML.out]; exact l1)
      rw [MT.out] at cm
      have ST := fun W (h : IntSl W (some ⟨gb, go_, none⟩) (massL l)) => sorted_any (massL l) (some ⟨gb, go_, none⟩) c4' W h MS.out
      rw [ML.out] at ST
      have STH := hide ST
      clear gat ST
      generalize ms (⟨fr, st, l⟩ : Ser).ds (⟨fr, st, l⟩ : Ser).ds.length = M1 at *
      go_wp2_with fail
      refine (STH.out _ HM.out).mono ?_
      rintro e wz ⟨rfl, hb⟩
      replace X := X.to hb
      clear hb hr
      go_wp2
      go_ret
      exact ⟨rfl, X.1⟩
theorem greater_law (s : Ser) (q : SerA) (an bn : Nat) (w : World) (hs : SerSl w s q) (hA : q.A = none → q.c = 0) (ha : an ≤ 255) (hb : bn ≤ 255) : Calls Try.prog 5 #[s.val q, .int .u8 (an : Int), .int .u8 (bn : Int)] w fun e w' => e = .returned (.bool true) ∧ Below w.heap.size w w' := by
  rcases Nat.lt_or_ge 200 s.ds.length with hn | hn
  · exact greater_big s q an bn w hs hA hn
  · rcases Bool.eq_false_or_eq_true (vS s) with hv | hv
    · rcases Nat.eq_zero_or_pos s.ds.length with h0 | h0
      · exact greater_none s q an bn w hs hA hn hv h0
      · exact greater_main s q an bn w hs hA ha hb hn hv h0
    · exact greater_bad' s q an bn w hs hA hn hv
end Go.Proofs.Ytkbocphpnmpaeaa
