/- GaugeFine: the law's walk (printed by gen_fine.py). -/
import Derived.Test.YtkbocphpnmpaeaaGgAwk
import Derived.Test.YtkbocphpnmpaeaaGgOne
import Derived.Test.YtkbocphpnmpaeaaGgFin2
import Derived.Test.YtkbocphpnmpaeaaGgFiP
namespace Go.Proofs.Ytkbocphpnmpaeaa
open Go.RowKit

set_option maxRecDepth 100000 in
set_option maxHeartbeats 4000000 in
theorem fine_big (s : Ser) (q : SerA) (bn : Nat) (w : World) (hs : SerSl w s q) (hn : 200 < s.ds.length) :
    Calls Try.prog 3 #[s.val q, .int .u8 (bn : Int)] w (BPost true w) := by
  obtain ⟨A, c⟩ := q
  have X := (Own.start w).alloc #[.int .i64 s.fr, .int .i64 s.st, .slice A s.ds.length c] 24
  have HS := hide hs
  have n1 : (0 : Int) ≤ (s.ds.length : Int) := by omega
  clear hs
  have hr := X.r1
  go_enter Try.func3, Try.ntmps3
  go_wp2_with fail
  refine (awake_any _).mono ?_
  rintro e wz ⟨rfl, hb⟩
  replace X := X.to hb
  clear hb hr
  have hr := X.r1
  have XB := X.alloc #[.int .i64 s.fr, .int .i64 s.st, .slice A s.ds.length c] 24
  go_wp2_with fail
  refine (few_one s ⟨A, c⟩ _ _ (XB.2 _ (List.mem_cons_self ..))).mono ?_
  rintro e wz ⟨rfl, hb⟩
  rw [long_yes hn]
  replace X := (XB.to hb).tail
  clear hb hr XB
  have hr := X.r1
  go_wp2
  go_ret
  exact ⟨rfl, X.1⟩
set_option maxRecDepth 100000 in
set_option maxHeartbeats 4000000 in
theorem fine_bad (s : Ser) (q : SerA) (bn : Nat) (w : World) (hs : SerSl w s q) (hn : s.ds.length ≤ 200) (hv : vS s = false) :
    Calls Try.prog 3 #[s.val q, .int .u8 (bn : Int)] w (BPost true w) := by
  obtain ⟨A, c⟩ := q
  have X := (Own.start w).alloc #[.int .i64 s.fr, .int .i64 s.st, .slice A s.ds.length c] 24
  have HS := hide hs
  have n1 : (0 : Int) ≤ (s.ds.length : Int) := by omega
  clear hs
  have hr := X.r1
  go_enter Try.func3, Try.ntmps3
  go_wp2_with fail
  refine (awake_any _).mono ?_
  rintro e wz ⟨rfl, hb⟩
  replace X := X.to hb
  clear hb hr
  have hr := X.r1
  have XB := X.alloc #[.int .i64 s.fr, .int .i64 s.st, .slice A s.ds.length c] 24
  go_wp2_with fail
  refine (few_one s ⟨A, c⟩ _ _ (XB.2 _ (List.mem_cons_self ..))).mono ?_
  rintro e wz ⟨rfl, hb⟩
  rw [long_no hn]
  replace X := (XB.to hb).tail
  clear hb hr XB
  have hr := X.r1
  go_wp2_with fail
  refine (gvalid_any s ⟨A, c⟩ _ (HS.out.below X.1)).mono ?_
  rintro e wz ⟨rfl, hb⟩
  rw [hv]
  replace X := X.to hb
  clear hb hr
  have hr := X.r1
  go_wp2
  go_ret
  exact ⟨rfl, X.1⟩
set_option maxRecDepth 100000 in
set_option maxHeartbeats 4000000 in
theorem fine_main (s : Ser) (q : SerA) (bn : Nat) (w : World) (hs : SerSl w s q) (hn : s.ds.length ≤ 200) (hv : vS s = true) (hb255 : bn ≤ 255) :
    Calls Try.prog 3 #[s.val q, .int .u8 (bn : Int)] w (BPost true w) := by
  obtain ⟨A, c⟩ := q
  have X := (Own.start w).alloc #[.int .i64 s.fr, .int .i64 s.st, .slice A s.ds.length c] 24
  have HS := hide hs
  have n1 : (0 : Int) ≤ (s.ds.length : Int) := by omega
  clear hs
  obtain ⟨fr, st, l⟩ := s
  have hn' : l.length ≤ 200 := hn
  have v := vS_iff.1 hv
  have v1 : 1 ≤ st ∧ st ≤ 86400 := v.st
  obtain ⟨k, ek⟩ : ∃ k : Nat, k = 1 + bn % 30 := ⟨_, rfl⟩
  have rb := Nat.mod_lt bn (show 0 < 30 by omega)
  have m2 : (bn : Int).tmod 30 = ((bn % 30 : Nat) : Int) := by rw [Int.tmod_eq_emod_of_nonneg (by omega)]; first | exact (Int.natCast_emod _ _).symm | exact (Int.ofNat_emod _ _).symm | rfl
  have w2 : IntKind.i64.wrap ((bn : Int).tmod 30) = ((bn % 30 : Nat) : Int) := by rw [m2]; exact IntWalk.i64_in _ (by omega)
  have w4 : IntKind.i64.wrap (1 + ((bn % 30 : Nat) : Int)) = (k : Int) := (IntWalk.i64_in _ (by omega)).trans (by omega)
  have w6 := IntWalk.i64_in (bn : Int) (by omega)
  have w7 : IntKind.i64.wrap ((bn % 30 : Nat) : Int) = ((bn % 30 : Nat) : Int) := IntWalk.i64_in _ (by omega)
  have k1 : 1 ≤ k := by omega
  have k2 : k ≤ 30 := by omega
  have q4 : decide ((k : Int) < 1) = false := decide_eq_false (by omega)
  have q5 : ((k : Int) == 0) = false := beq_eq_false_iff_ne.2 (by omega)
  have q6 : ¬ (k : Int) = 0 := by omega
  have q60 : ¬ k = 0 := by omega
  have m1 : st.tmod (k : Int) = st % (k : Int) := Int.tmod_eq_emod_of_nonneg (by omega)
  have b1 : 0 ≤ st % (k : Int) := Int.emod_nonneg _ (by omega)
  have b2 : st % (k : Int) < (k : Int) := Int.emod_lt_of_pos _ (by omega)
  have w1 : IntKind.i64.wrap (st.tmod (k : Int)) = st % (k : Int) := by rw [m1]; exact IntWalk.i64_in _ (by omega)
  have w8 : IntKind.i64.wrap (st % (k : Int)) = st % (k : Int) := IntWalk.i64_in _ (by omega)
  have hv' := hv
  by_cases h3 : st % (k : Int) = 0
  rotate_left
  · have FR := hide (fun W (h : SerSl W ⟨fr, st, l⟩ ⟨A, c⟩) => finer_range ⟨fr, st, l⟩ ⟨A, c⟩ k W h hv k1 (by omega) h3)
    have q2 : (st % (k : Int) == 0) = false := by simpa using h3
    have q3 : (st % (k : Int) != 0) = true := by simpa using h3
    have H3 := hide h3
    clear h3 ek
    generalize st % (k : Int) = M at *
    generalize bn % 30 = br at *
    have hr := X.r1
    go_enter Try.func3, Try.ntmps3
    go_wp2_with fail
    refine (awake_any _).mono ?_
    rintro e wz ⟨rfl, hb⟩
    replace X := X.to hb
    clear hb hr
    have hr := X.r1
    have XB := X.alloc #[.int .i64 fr, .int .i64 st, .slice A l.length c] 24
    go_wp2_with fail
    refine (few_one ⟨fr, st, l⟩ ⟨A, c⟩ _ _ (XB.2 _ (List.mem_cons_self ..))).mono ?_
    rintro e wz ⟨rfl, hb⟩
    rw [long_no hn]
    replace X := (XB.to hb).tail
    clear hb hr XB
    have hr := X.r1
    go_wp2_with fail
    refine (gvalid_any ⟨fr, st, l⟩ ⟨A, c⟩ _ (HS.out.below X.1)).mono ?_
    rintro e wz ⟨rfl, hb⟩
    rw [hv]
    replace X := X.to hb
    clear hb hr
    have hr := X.r1
    go_wp2_with fail
    refine (FR.out _ (HS.out.below X.1)).mono ?_
    intro e wz hq
    obtain ⟨hb, A3, c3, rfl, hs3⟩ := hq.out
    replace X := (X.to hb).alloc #[.int .i64 0, .int .i64 0, .slice A3 0 c3] 24
    have HW := hide (SerSl.below hs3 ((Below.refl wz.heap.size wz).alloc (Nat.le_refl _) (.cells #[.int .i64 0, .int .i64 0, .slice A3 0 c3] 24)))
    clear hb hr hq hs3
    have hr := X.r2
    go_wp2_with fail
    refine (none_any Ser0 ⟨A3, c3⟩ _ HW.out).mono ?_
    rintro e wy ⟨rfl, hb⟩
    replace X := X.to hb
    clear hb hr
    rw [show sameB Ser0 ⟨0, 0, []⟩ = true by decide]
    go_wp2
    go_ret
    exact ⟨rfl, X.1⟩
  · have FI := hide (fun W (h : SerSl W ⟨fr, st, l⟩ ⟨A, c⟩) => (by
      by_cases e : l = []
      · have := finer_nil ⟨fr, st, l⟩ ⟨A, c⟩ k W h hv k1 (by omega) h3 e
        subst e
        exact this
      · exact finer_in ⟨fr, st, l⟩ ⟨A, c⟩ k W h hv k1 (by omega) h3 (by show l.length * k ≤ 10000; have := Nat.mul_le_mul hn' k2; omega) (List.length_pos_iff.2 e) : Calls Try.prog 11 #[.agg #[.int .i64 fr, .int .i64 st, .slice A l.length c], .int .i64 (k : Int)] W (SerPost ⟨fr, st / (k : Int), fnL l k l.length⟩ 0 W)))
    have lk : l.length * k ≤ 6000 := by have := Nat.mul_le_mul hn' k2; omega
    have FV := fin_valid (k := k) v k1 (by omega) h3 (show l.length * k ≤ 10000 by omega)
    have FVB := hide (vS_iff.2 FV)
    have FL := fnL_length (k := k) k1 (by omega) v.ok l.length (Nat.le_refl _)
    have SU := fnL_sums (k := k) k1 (by omega) v.ok l.length (Nat.le_refl _)
    have FB := fnL_back (k := k) k1 (by omega) v.ok
    have FA := hide (fun (x : Nat) (hx : x < l.length * k) => (by
      have dm := Nat.div_add_mod x k
      have i1 : x / k < l.length := (Nat.div_lt_iff_lt_mul (by omega)).2 hx
      have j1 : x % k < k := Nat.mod_lt _ (by omega)
      have d : -1 ≤ l.getD (x / k) 0 ∧ l.getD (x / k) 0 ≤ 4194304 := v.ok (x / k) i1
      have a := fnD_at k1 (show k ≤ 10000 by omega) d.1 d.2 j1
      have ex := fnL_at k1 (show k ≤ 10000 by omega) v.ok l.length (Nat.le_refl _) (x / k) (x % k) i1 j1
      rw [Nat.mul_comm, dm] at ex
      have ex' : (fnL l k l.length).getD x 0 = (fnD k (l.getD (x / k) 0)).getD (x % k) 0 := ex
      rw [← ex'] at a
      exact ⟨i1, d.1, d.2, a.1, a.2⟩ : x / k < l.length ∧ -1 ≤ l.getD (x / k) 0 ∧ l.getD (x / k) 0 ≤ 4194304 ∧ (l.getD (x / k) 0 = -1 → (fnL l k l.length).getD x 0 = -1) ∧ (0 ≤ l.getD (x / k) 0 → l.getD (x / k) 0 / (k : Int) ≤ (fnL l k l.length).getD x 0 ∧ (fnL l k l.length).getD x 0 ≤ l.getD (x / k) 0 / (k : Int) + 1 ∧ 0 ≤ (fnL l k l.length).getD x 0 ∧ (fnL l k l.length).getD x 0 ≤ l.getD (x / k) 0)))
    have CB := hide (fun i (hi : i < l.length) => (by
      rw [fnL_part k1 (show k ≤ 10000 by omega) v.ok hi, chV_fnD k1 (show k ≤ 10000 by omega) (v.ok i hi).1 (v.ok i hi).2]
      exact (v.ok i hi).2 : chV (part (fnL l k l.length) k i) ≤ 4194304))
    have qk : st / (k : Int) * (k : Int) = st := by have := Int.mul_ediv_add_emod st (k : Int); rw [h3, Int.add_zero, Int.mul_comm] at this; exact this
    have msb := ms_bd l l.length
    have kms : 0 ≤ (k : Int) * ms l l.length ∧ (k : Int) * ms l l.length ≤ 30 * 200 := ⟨Int.mul_nonneg (by omega) msb.1, Int.mul_le_mul (by omega) (by omega) msb.1 (by omega)⟩
    obtain ⟨kM, hkM⟩ : ∃ z, z = (k : Int) * ms l l.length := ⟨_, rfl⟩
    have s1 : IntKind.i64.wrap ((k : Int) * ms l l.length) = kM := (IntWalk.i64_in _ (by omega)).trans hkM.symm
    have s2 : IntKind.i64.wrap ((k : Int) * (l.length : Int)) = ((l.length * k : Nat) : Int) := by rw [Int.mul_comm, ← Int.natCast_mul]; exact IntWalk.i64_in _ (by omega)
    have CO := fun W a (h : SerSl W ⟨fr, st / (k : Int), fnL l k l.length⟩ a) => coarser_in ⟨fr, st / (k : Int), fnL l k l.length⟩ a k l.length W h FVB.out k1 (by show st / (k : Int) * (k : Int) ≤ 86400; omega) FL CB.out
    have TF := fun W a (h : SerSl W ⟨fr, st / (k : Int), fnL l k l.length⟩ a) => total_in ⟨fr, st / (k : Int), fnL l k l.length⟩ a W h FVB.out
    rw [show (⟨fr, st / (k : Int), fnL l k l.length⟩ : Ser).st * (k : Int) = st from qk, show chL (⟨fr, st / (k : Int), fnL l k l.length⟩ : Ser).ds k l.length = l from FB] at CO
    rw [show (⟨fr, st / (k : Int), fnL l k l.length⟩ : Ser).ds = fnL l k l.length from rfl, FL, SU.1, SU.2, ← hkM] at TF
    have FLH := hide FL
    have COH : Hid (∀ W A3 c3, SerSl W ⟨fr, st / (k : Int), fnL l k l.length⟩ ⟨A3, c3⟩ → Calls Try.prog 14 #[.agg #[.int .i64 fr, .int .i64 (st / (k : Int)), .slice A3 (fnL l k l.length).length c3], .int .i64 (k : Int)] W (SerPost ⟨fr, st, l⟩ 0 W)) := hide (fun W A3 c3 h => CO W ⟨A3, c3⟩ h)
    have TFH : Hid (∀ W A3 c3, SerSl W ⟨fr, st / (k : Int), fnL l k l.length⟩ ⟨A3, c3⟩ → Calls Try.prog 13 #[.agg #[.int .i64 fr, .int .i64 (st / (k : Int)), .slice A3 (fnL l k l.length).length c3]] W (GrPost (ps l l.length) kM 0 W)) := hide (fun W A3 c3 h => TF W ⟨A3, c3⟩ h)
    rw [FL] at COH TFH
    have LKH := hide lk
    have H3 := hide h3
    clear CO TF FL SU FB FV CB qk msb kms h3 ek v w1 w8 m1 b1 b2
    generalize st / (k : Int) = sq at *
    generalize hF : fnL l k l.length = F at *
    have HF := hide hF
    clear hF
    generalize hN : l.length * k = N at *
    have HN := hide hN
    clear hN lk
    generalize bn % 30 = br at *
    have TSH : Hid (∀ W, SerSl W ⟨fr, st, l⟩ ⟨A, c⟩ → Calls Try.prog 13 #[.agg #[.int .i64 fr, .int .i64 st, .slice A l.length c]] W (GrPost (ps l l.length) (ms l l.length) 0 W)) := hide (fun W h => total_in ⟨fr, st, l⟩ ⟨A, c⟩ W h hv)
    generalize ps l l.length = P at *
    generalize hM : ms l l.length = M at *
    have HKM := hide (And.intro hM hkM)
    clear hM hkM
    have hr := X.r1
    go_enter Try.func3, Try.ntmps3
    go_wp2_with fail
    refine (awake_any _).mono ?_
    rintro e wz ⟨rfl, hb⟩
    replace X := X.to hb
    clear hb hr
    have hr := X.r1
    have XB := X.alloc #[.int .i64 fr, .int .i64 st, .slice A l.length c] 24
    go_wp2_with fail
    refine (few_one ⟨fr, st, l⟩ ⟨A, c⟩ _ _ (XB.2 _ (List.mem_cons_self ..))).mono ?_
    rintro e wz ⟨rfl, hb⟩
    rw [long_no hn]
    replace X := (XB.to hb).tail
    clear hb hr XB
    have hr := X.r1
    go_wp2_with fail
    refine (gvalid_any ⟨fr, st, l⟩ ⟨A, c⟩ _ (HS.out.below X.1)).mono ?_
    rintro e wz ⟨rfl, hb⟩
    rw [hv]
    replace X := X.to hb
    clear hb hr
    have hr := X.r1
    go_wp2_with fail
    refine (FI.out _ (HS.out.below X.1)).mono ?_
    intro e wf hq
    obtain ⟨hb, A3, c3, rfl, hs3⟩ := hq.out
    rw [show F.length = N from FLH.out]
    replace X := (X.to hb).alloc #[.int .i64 fr, .int .i64 sq, .slice A3 N c3] 24
    have HW := hide (SerSl.below hs3 ((Below.refl wf.heap.size wf).alloc (Nat.le_refl _) (.cells #[.int .i64 fr, .int .i64 sq, .slice A3 N c3] 24)))
    clear hb hr hq hs3 FI
    have hr := X.r2
    have TS : Hid (∀ W, SerSl W ⟨fr, st, l⟩ ⟨A, c⟩ → Calls Try.prog 13 #[.agg #[.int .i64 fr, .int .i64 st, .slice A l.length c]] W (GrPost P M 0 W)) := TSH
    go_wp2_with fail
    refine (TS.out _ (HS.out.below X.1)).mono ?_
    rintro e wz ⟨rfl, hb⟩
    replace X := X.to hb
    replace HW := hide (HW.out.below hb)
    clear hb hr
    have hr := X.r2
    go_wp2_with fail
    refine (TFH.out _ _ _ HW.out).mono ?_
    rintro e wz ⟨rfl, hb⟩
    replace X := X.to hb
    replace HW := hide (HW.out.below hb)
    clear hb hr
    have hr := X.r2
    go_wp2_with fail
    refine (COH.out _ _ _ HW.out).mono ?_
    intro e wc hq
    obtain ⟨hb, A4, c4, rfl, hs4⟩ := hq.out
    replace X := (X.to hb).alloc #[.int .i64 fr, .int .i64 st, .slice A4 l.length c4] 24
    have bA : Below wc.heap.size wc (wc.alloc (.cells #[.int .i64 fr, .int .i64 st, .slice A4 l.length c4] 24)) := (Below.refl _ _).alloc (Nat.le_refl _) _
    replace HW := hide (SerSl.below (SerSl.below HW.out hb) bA)
    have HC := hide (SerSl.below hs4 bA)
    clear hb hr hq hs4 bA TS TFH COH
    have hr := X.r3
    have SM := fun W (h : SerSl W ⟨fr, st, l⟩ ⟨A4, c4⟩) (h' : SerSl W ⟨fr, st, l⟩ ⟨A, c⟩) => same_any ⟨fr, st, l⟩ ⟨A4, c4⟩ ⟨fr, st, l⟩ ⟨A, c⟩ W h h'
    rw [show sameB ⟨fr, st, l⟩ ⟨fr, st, l⟩ = true from sameB_yes ⟨rfl, rfl, rfl⟩] at SM
    have SMH := hide SM
    clear SM
    go_wp2_with fail
    refine (SMH.out _ HC.out (HS.out.below X.1)).mono ?_
    rintro e wz ⟨rfl, hb⟩
    replace X := X.to hb
    replace HW := hide (HW.out.below hb).1
    clear hb hr SMH HC
    have hr := X.r3
    go_wp2
    have BZ := Below.refl wz.heap.size wz
    have XH := hide (And.intro X BZ)
    clear X hr BZ
    go_loopw [16, 17, 18, 115] (fun v16 v17 v18 v115 wr => ∃ x : Nat, x ≤ N ∧ v115 = .int .i64 (x : Int) ∧ Hid (Own w wr [(wc.heap.size, 24, #[.int .i64 fr, .int .i64 st, .slice A4 l.length c4]), (wf.heap.size, 24, #[.int .i64 fr, .int .i64 sq, .slice A3 N c3]), (w.heap.size, 24, #[.int .i64 fr, .int .i64 st, .slice A l.length c])] ∧ Below wz.heap.size wz wr)) (fun _ _ _ v115 _ => N - (intOf v115).toNat)
    case atStart => exact ⟨0, by omega, rfl, XH⟩
    case round =>
      obtain ⟨x, hx, rfl, Y⟩ := hrel
      by_cases hlt : x < N
      · obtain ⟨i1, d1, d2, am, ap⟩ := FA.out x hlt
        have m3 : (x : Int).tdiv (k : Int) = ((x / k : Nat) : Int) := by rw [Int.tdiv_eq_ediv_of_nonneg (by omega)]; first | exact (Int.natCast_ediv _ _).symm | exact (Int.ofNat_ediv _ _).symm | rfl
        have ik : x / k ≤ x := Nat.div_le_self _ _
        have hN6 : N ≤ 6000 := LKH.out
        generalize x / k = i at *
        obtain ⟨g3, o3, rfl, g3l, at3⟩ := (HW.out.below Y.out.2).atg (by show 0 < F.length; have := FLH.out; omega)
        have c0 := at3 x (by show x < F.length; have := FLH.out; omega)
        obtain ⟨g, off, rfl, gl, at1⟩ := (HS.out.below Y.out.1.1).1.atg (show 0 < l.length by omega)
        have c1 : wr.cell? ⟨g, off + i, none⟩ = some (.int .i64 (l.getD (i) 0)) := at1 (i) i1
        have hr := Y.out.1.r3
        have w3 : IntKind.i64.wrap ((x : Int).tdiv (k : Int)) = ((i : Nat) : Int) := by rw [m3]; exact IntWalk.i64_in _ (by have := LKH.out; omega)
        have w31 : IntKind.i64.wrap ((i : Nat) : Int) = ((i : Nat) : Int) := IntWalk.i64_in _ (by have := LKH.out; omega)
        have g0 : (0 : Int) ≤ ((i : Nat) : Int) := by omega
        have g1 : ((i : Nat) : Int) < (l.length : Int) := by omega
        have h0 : (0 : Int) ≤ (x : Int) := by omega
        have h1 : (x : Int) < (N : Int) := by omega
        have dq : (l.getD (i) 0).tdiv (k : Int) = l.getD (i) 0 / (k : Int) ∨ l.getD (i) 0 = -1 := by
          by_cases e : l.getD (i) 0 = -1
          · exact .inr e
          · exact .inl (Int.tdiv_eq_ediv_of_nonneg (by omega))
        clear at3 at1
        generalize F.getD x 0 = p at *
        generalize l.getD i 0 = y at *
        by_cases e : y = -1
        · have ep := am e
          subst e
          subst ep
          clear am ap dq d1 d2
          go_wp2
          go_quiet (fail)
          go_wp2
          go_roundw
          case rel => exact ⟨x + 1, by omega, by go_num, hide ⟨own_drewN Y.out.1 _, below_drewN Y.out.2 _⟩⟩
          case measure => simp [intOf]; omega
        · have y0 : 0 ≤ y := by omega
          obtain ⟨p1, p2, p3, p4⟩ := ap y0
          have dq' : y.tdiv (k : Int) = y / (k : Int) := by
            rcases dq with h | h
            · exact h
            · exact absurd h e
          have Q1 : 0 ≤ y / (k : Int) := Int.ediv_nonneg y0 (by omega)
          have Q2 : y / (k : Int) ≤ y := Int.ediv_le_self _ y0
          generalize y / (k : Int) = Q at *
          have u1 : IntKind.i64.wrap (y.tdiv (k : Int)) = Q := by rw [dq']; exact IntWalk.i64_in _ (by omega)
          have u2 : IntKind.i64.wrap (Q + 1) = Q + 1 := IntWalk.i64_in _ (by omega)
          have u3 : IntKind.i64.wrap Q = Q := IntWalk.i64_in _ (by omega)
          have u4 : decide (y < 0) = false := decide_eq_false (by omega)
          have u5 : decide (p < Q) = false := decide_eq_false (by omega)
          have u6 : decide (Q + 1 < p) = false := decide_eq_false (by omega)
          have u7 : decide (0 ≤ y) = true := decide_eq_true y0
          clear am ap dq e d1
          go_wp2
          go_quiet (fail)
          go_wp2
          go_roundw
          case rel => exact ⟨x + 1, by omega, by go_num, hide ⟨own_drewN Y.out.1 _, below_drewN Y.out.2 _⟩⟩
          case measure => simp [intOf]; omega
      · have e : x = N := by omega
        subst e
        go_wp2
        go_ret
        exact ⟨rfl, Y.out.1.1⟩
theorem fine_law (s : Ser) (q : SerA) (bn : Nat) (w : World) (hs : SerSl w s q) (hb : bn ≤ 255) : Calls Try.prog 3 #[s.val q, .int .u8 (bn : Int)] w fun e w' => e = .returned (.bool true) ∧ Below w.heap.size w w' := by
  rcases Nat.lt_or_ge 200 s.ds.length with hn | hn
  · exact fine_big s q bn w hs hn
  · rcases Bool.eq_false_or_eq_true (vS s) with hv | hv
    · exact fine_main s q bn w hs hn hv hb
    · exact fine_bad s q bn w hs hn hv
end Go.Proofs.Ytkbocphpnmpaeaa
