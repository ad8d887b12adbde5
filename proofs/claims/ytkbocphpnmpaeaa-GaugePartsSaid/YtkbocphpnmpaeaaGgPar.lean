/- GaugeParts: the law's walk (printed by gen_parts.py). -/
import Derived.Test.YtkbocphpnmpaeaaGgPar0
namespace Go.Proofs.Ytkbocphpnmpaeaa
open Go.RowKit

set_option maxRecDepth 100000 in
set_option maxHeartbeats 4000000 in
theorem parts_main (fr st : Int) (l : List Int) (A : Option Addr) (c : Nat) (fr' st' : Int) (l' : List Int) (A' : Option Addr) (c' : Nat) (cn : Nat) (w : World) (hs : SerSl w ⟨fr, st, l⟩ ⟨A, c⟩) (ht : SerSl w ⟨fr', st', l'⟩ ⟨A', c'⟩) (hA : A = none → c = 0) (hcn : cn ≤ 255) (hn : l.length ≤ 200) (hn' : l'.length ≤ 200) (hv : vS ⟨fr, st, l⟩ = true) :
    Calls Try.prog 7 #[.agg #[.int .i64 fr, .int .i64 st, .slice A l.length c], .agg #[.int .i64 fr', .int .i64 st', .slice A' l'.length c'], .int .u8 (cn : Int)] w (BPost true w) := by
  have X := ((Own.start w).alloc #[.int .i64 fr, .int .i64 st, .slice A l.length c] 24).alloc #[.int .i64 fr', .int .i64 st', .slice A' l'.length c'] 24
  simp only [World.size_alloc] at X
  have HS := hide hs
  have HT := hide ht
  clear hs ht
  have v := vS_iff.1 hv
  have v1 : 1 ≤ st ∧ st ≤ 86400 := v.st
  have vf : -68719476736 ≤ fr ∧ fr ≤ 68719476736 := v.fr
  obtain ⟨k, ek⟩ : ∃ k : Nat, k = cn % (l.length + 1) := ⟨_, rfl⟩
  have rk := Nat.mod_lt cn (show 0 < l.length + 1 by omega)
  have kl : k ≤ l.length := by omega
  have m1 : (cn : Int).tmod ((l.length : Int) + 1) = (k : Int) := by rw [Int.tmod_eq_emod_of_nonneg (by omega), ek]; first | exact (Int.natCast_emod _ _).symm | exact (Int.ofNat_emod _ _).symm | rfl
  have w1 : IntKind.i64.wrap ((l.length : Int) + 1) = (l.length : Int) + 1 := IntWalk.i64_in _ (by omega)
  have w2 : IntKind.i64.wrap ((cn : Int).tmod ((l.length : Int) + 1)) = (k : Int) := by rw [m1]; exact IntWalk.i64_in _ (by omega)
  have w3 := IntWalk.i64_in (cn : Int) (by omega)
  have w4 : IntKind.i64.wrap (k : Int) = (k : Int) := IntWalk.i64_in _ (by omega)
  have z1 : ¬ (l.length : Int) + 1 = 0 := by omega
  have z2 : ((l.length : Int) + 1 == 0) = false := beq_eq_false_iff_ne.2 z1
  have WA : ∀ W, SerSl W ⟨fr, st, l⟩ ⟨A, c⟩ → Calls Try.prog 27 #[.agg #[.int .i64 fr, .int .i64 st, .slice A l.length c], .int .i64 0, .int .i64 (k : Int)] W (SerPost (winS ⟨fr, st, l⟩ 0 k) 0 W) := fun W h => window_in ⟨fr, st, l⟩ ⟨A, c⟩ 0 k W h hA hv (Nat.zero_le _) kl
  have WB : ∀ W, SerSl W ⟨fr, st, l⟩ ⟨A, c⟩ → Calls Try.prog 27 #[.agg #[.int .i64 fr, .int .i64 st, .slice A l.length c], .int .i64 (k : Int), .int .i64 (l.length : Int)] W (SerPost (winS ⟨fr, st, l⟩ k l.length) 0 W) := fun W h => window_in ⟨fr, st, l⟩ ⟨A, c⟩ k l.length W h hA hv kl (Nat.le_refl _)
  have va := winS_valid (Nat.zero_le k) kl v
  have vb := winS_valid kl (Nat.le_refl _) v
  have TA := fun W a h => total_in (winS ⟨fr, st, l⟩ 0 k) a W h (vS_iff.2 va)
  have TB := fun W a h => total_in (winS ⟨fr, st, l⟩ k l.length) a W h (vS_iff.2 vb)
  have TS := fun W h => total_in ⟨fr, st, l⟩ ⟨A, c⟩ W h hv
  obtain ⟨mw1, mw2⟩ := merge_win v kl
  obtain ⟨ms1, ms2⟩ := merge_self v
  have MC := fun W a b h h' => merge_any (winS ⟨fr, st, l⟩ k l.length) b (winS ⟨fr, st, l⟩ 0 k) a W h h'
  have MD := fun W h => merge_any ⟨fr, st, l⟩ ⟨A, c⟩ ⟨fr, st, l⟩ ⟨A, c⟩ W h h
  rw [show mgE (winS ⟨fr, st, l⟩ k l.length) (winS ⟨fr, st, l⟩ 0 k) = 0 from mw1, show mgS (winS ⟨fr, st, l⟩ k l.length) (winS ⟨fr, st, l⟩ 0 k) = ⟨fr, st, l⟩ from mw2] at MC
  rw [ms1, ms2] at MD
  have la : (winL l 0 k).length = k := winL_length (Nat.zero_le k) kl
  have lb : (winL l k l.length).length = l.length - k := winL_length kl (Nat.le_refl _)
  have pa : ps (winL l 0 k) (winL l 0 k).length = ps l k := by rw [la, ps_win k (by omega), Nat.zero_add]; show _ - 0 = _; omega
  have pb : ps (winL l k l.length) (winL l k l.length).length = ps l l.length - ps l k := by rw [lb, ps_win _ (by omega), show k + (l.length - k) = l.length by omega]
  have ma : ms (winL l 0 k) (winL l 0 k).length = ms l k := by rw [la, ms_win k (by omega), Nat.zero_add]; show _ - 0 = _; omega
  have mb : ms (winL l k l.length) (winL l k l.length).length = ms l l.length - ms l k := by rw [lb, ms_win _ (by omega), show k + (l.length - k) = l.length by omega]
  have wa : winS ⟨fr, st, l⟩ 0 k = ⟨fr + st * ((0 : Nat) : Int), st, winL l 0 k⟩ := rfl
  have wb : winS ⟨fr, st, l⟩ k l.length = ⟨fr + st * (k : Int), st, winL l k l.length⟩ := rfl
  rw [wa] at WA TA MC
  rw [wb] at WB TB MC
  rw [show (⟨fr + st * ((0 : Nat) : Int), st, winL l 0 k⟩ : Ser).ds = winL l 0 k from rfl, pa, ma] at TA
  rw [show (⟨fr + st * (k : Int), st, winL l k l.length⟩ : Ser).ds = winL l k l.length from rfl, pb, mb] at TB
  rw [show (⟨fr, st, l⟩ : Ser).ds = l from rfl] at TS
  have p0 := ps_nonneg l k
  have p1 := ps_le (fun i hi => (v.ok i hi).2) l.length (Nat.le_refl _)
  have p1' : ps l l.length ≤ 4194304 * (l.length : Int) := p1
  have p2 := ps_mono l kl
  have u0 := ms_bd l k
  have u1 := ms_bd l l.length
  have s1 : IntKind.i64.wrap (ps l k + (ps l l.length - ps l k)) = ps l l.length := (IntWalk.i64_in _ (by omega)).trans (by omega)
  have s2 : IntKind.i64.wrap (ms l k + (ms l l.length - ms l k)) = ms l l.length := (IntWalk.i64_in _ (by omega)).trans (by omega)
  clear mw1 mw2 ms1 ms2 pa pb ma mb wa wb la lb va vb p0 p1 p1' p2 u0 u1 ek rk
  generalize hq1 : fr + st * ((0 : Nat) : Int) = q1 at *
  generalize hq2 : fr + st * (k : Int) = q2 at *
  generalize winL l 0 k = LA at *
  generalize winL l k l.length = LB at *
  obtain ⟨P2, hP2⟩ : ∃ P2, P2 = ps l l.length - ps l k := ⟨_, rfl⟩
  obtain ⟨M2, hM2⟩ : ∃ M2, M2 = ms l l.length - ms l k := ⟨_, rfl⟩
  rw [← hP2, ← hM2] at TB
  rw [← hP2] at s1
  rw [← hM2] at s2
  have HQ := hide (And.intro hq1 (And.intro hq2 (And.intro hP2 hM2)))
  clear hq1 hq2 hP2 hM2
  generalize ps l l.length = P at *
  generalize ps l k = P1 at *
  generalize ms l l.length = M at *
  generalize ms l k = M1 at *
  have WAH := hide WA
  have WBH := hide WB
  have TSH : Hid (∀ W, SerSl W ⟨fr, st, l⟩ ⟨A, c⟩ → Calls Try.prog 13 #[.agg #[.int .i64 fr, .int .i64 st, .slice A l.length c]] W (GrPost P M 0 W)) := hide TS
  have TAH : Hid (∀ W A1 c1, SerSl W ⟨q1, st, LA⟩ ⟨A1, c1⟩ → Calls Try.prog 13 #[.agg #[.int .i64 q1, .int .i64 st, .slice A1 LA.length c1]] W (GrPost P1 M1 0 W)) := hide (fun W A1 c1 h => TA W ⟨A1, c1⟩ h)
  have TBH : Hid (∀ W A1 c1, SerSl W ⟨q2, st, LB⟩ ⟨A1, c1⟩ → Calls Try.prog 13 #[.agg #[.int .i64 q2, .int .i64 st, .slice A1 LB.length c1]] W (GrPost P2 M2 0 W)) := hide (fun W A1 c1 h => TB W ⟨A1, c1⟩ h)
  have MCH : Hid (∀ W A1 c1 A2 c2, SerSl W ⟨q2, st, LB⟩ ⟨A2, c2⟩ → SerSl W ⟨q1, st, LA⟩ ⟨A1, c1⟩ → Calls Try.prog 29 #[.agg #[.int .i64 q2, .int .i64 st, .slice A2 LB.length c2], .agg #[.int .i64 q1, .int .i64 st, .slice A1 LA.length c1]] W (SerPost ⟨fr, st, l⟩ 0 W)) := hide (fun W A1 c1 A2 c2 h h' => MC W ⟨A1, c1⟩ ⟨A2, c2⟩ h h')
  have MDH : Hid (∀ W, SerSl W ⟨fr, st, l⟩ ⟨A, c⟩ → Calls Try.prog 29 #[.agg #[.int .i64 fr, .int .i64 st, .slice A l.length c], .agg #[.int .i64 fr, .int .i64 st, .slice A l.length c]] W (SerPost ⟨fr, st, l⟩ 0 W)) := hide MD
  have SMH : Hid (∀ W A4 c4, SerSl W ⟨fr, st, l⟩ ⟨A4, c4⟩ → SerSl W ⟨fr, st, l⟩ ⟨A, c⟩ → Calls Try.prog 15 #[.agg #[.int .i64 fr, .int .i64 st, .slice A4 l.length c4], .agg #[.int .i64 fr, .int .i64 st, .slice A l.length c]] W (BPost true W)) := hide (fun W A4 c4 h h' => by
    have := same_any ⟨fr, st, l⟩ ⟨A4, c4⟩ ⟨fr, st, l⟩ ⟨A, c⟩ W h h'
    rw [show sameB ⟨fr, st, l⟩ ⟨fr, st, l⟩ = true from sameB_yes ⟨rfl, rfl, rfl⟩] at this
    exact this)
  have MZH : Hid (∀ W, SerSl W ⟨fr, st, l⟩ ⟨A, c⟩ → SerSl W ⟨fr', st', l'⟩ ⟨A', c'⟩ → Calls Try.prog 29 #[.agg #[.int .i64 fr, .int .i64 st, .slice A l.length c], .agg #[.int .i64 fr', .int .i64 st', .slice A' l'.length c']] W (SerPost (mgS ⟨fr, st, l⟩ ⟨fr', st', l'⟩) (mgE ⟨fr, st, l⟩ ⟨fr', st', l'⟩) W)) := hide (fun W h h' => merge_any ⟨fr, st, l⟩ ⟨A, c⟩ ⟨fr', st', l'⟩ ⟨A', c'⟩ W h h')
  have HV := hide (And.intro v1 vf)
  clear WA WB TS TA TB MC MD v v1 vf hA
  have hr := X.r2
  go_enter Try.func7, Try.ntmps7
  go_wp2_with fail
  refine (awake_any _).mono ?_
  rintro e wz ⟨rfl, hb⟩
  replace X := X.to hb
  clear hb hr
  have hr := X.r2
  have XB := X.alloc #[.int .i64 fr, .int .i64 st, .slice A l.length c, .int .i64 fr', .int .i64 st', .slice A' l'.length c'] 24
  go_wp2_with fail
  refine (few_two ⟨fr, st, l⟩ ⟨A, c⟩ ⟨fr', st', l'⟩ ⟨A', c'⟩ _ _ (XB.2 _ (List.mem_cons_self ..))).mono ?_
  rintro e wz ⟨rfl, hb⟩
  rw [show (longP (l.length : Int) || longP (l'.length : Int)) = false by rw [long_no hn, long_no hn']; rfl]
  replace X := (XB.to hb).tail
  clear hb hr XB
  have hr := X.r2
  go_wp2_with fail
  refine (gvalid_any ⟨fr, st, l⟩ ⟨A, c⟩ _ (HS.out.below X.1)).mono ?_
  rintro e wz ⟨rfl, hb⟩
  rw [hv]
  replace X := X.to hb
  clear hb hr
  have hr := X.r2
  go_wp2_with fail
  refine (WAH.out _ (HS.out.below X.1)).mono ?_
  intro e wA hq
  obtain ⟨hb, A1, c1, rfl, hs3⟩ := hq.out
  replace X := (X.to hb).alloc #[.int .i64 q1, .int .i64 st, .slice A1 LA.length c1] 24
  have bA : Below wA.heap.size wA (wA.alloc (.cells #[.int .i64 q1, .int .i64 st, .slice A1 LA.length c1] 24)) := (Below.refl _ _).alloc (Nat.le_refl _) _
  have HA := hide (SerSl.below hs3 bA)
  clear hb hr hq hs3 bA
  have hr := X.r3
  go_wp2_with fail
  refine (WBH.out _ (HS.out.below X.1)).mono ?_
  intro e wB hq
  obtain ⟨hb, A2, c2, rfl, hs3⟩ := hq.out
  replace X := (X.to hb).alloc #[.int .i64 q2, .int .i64 st, .slice A2 LB.length c2] 24
  have bA : Below wB.heap.size wB (wB.alloc (.cells #[.int .i64 q2, .int .i64 st, .slice A2 LB.length c2] 24)) := (Below.refl _ _).alloc (Nat.le_refl _) _
  replace HA := hide (SerSl.below (SerSl.below HA.out hb) bA)
  have HB := hide (SerSl.below hs3 bA)
  clear hb hr hq hs3 bA
  have hr := X.r4
  go_wp2_with fail
  refine (TSH.out _ (HS.out.below X.1)).mono ?_
  rintro e wz ⟨rfl, hb⟩
  replace X := X.to hb
  replace HA := hide (HA.out.below hb)
  replace HB := hide (HB.out.below hb)
  clear hb hr
  have hr := X.r4
  go_wp2_with fail
  refine (TAH.out _ _ _ HA.out).mono ?_
  rintro e wz ⟨rfl, hb⟩
  replace X := X.to hb
  replace HA := hide (HA.out.below hb)
  replace HB := hide (HB.out.below hb)
  clear hb hr
  have hr := X.r4
  go_wp2_with fail
  refine (TBH.out _ _ _ HB.out).mono ?_
  rintro e wz ⟨rfl, hb⟩
  replace X := X.to hb
  replace HA := hide (HA.out.below hb)
  replace HB := hide (HB.out.below hb)
  clear hb hr
  have hr := X.r4
  go_wp2_with fail
  refine (MCH.out _ _ _ _ _ HB.out HA.out).mono ?_
  intro e wC hq
  obtain ⟨hb, A3, c3, rfl, hs3⟩ := hq.out
  replace X := (X.to hb).alloc #[.int .i64 fr, .int .i64 st, .slice A3 l.length c3] 24
  have bA : Below wC.heap.size wC (wC.alloc (.cells #[.int .i64 fr, .int .i64 st, .slice A3 l.length c3] 24)) := (Below.refl _ _).alloc (Nat.le_refl _) _
  have HC := hide (SerSl.below hs3 bA)
  clear hb hr hq hs3 bA
  have hr := X.r5
  go_wp2_with fail
  refine (MDH.out _ (HS.out.below X.1)).mono ?_
  intro e wD hq
  obtain ⟨hb, A4, c4, rfl, hs3⟩ := hq.out
  replace X := (X.to hb).alloc #[.int .i64 fr, .int .i64 st, .slice A4 l.length c4] 24
  have bA : Below wD.heap.size wD (wD.alloc (.cells #[.int .i64 fr, .int .i64 st, .slice A4 l.length c4] 24)) := (Below.refl _ _).alloc (Nat.le_refl _) _
  replace HC := hide (SerSl.below (SerSl.below HC.out hb) bA)
  have HD := hide (SerSl.below hs3 bA)
  clear hb hr hq hs3 bA
  have hr := X.r6
  go_wp2_with fail
  refine (SMH.out _ _ _ HC.out (HS.out.below X.1)).mono ?_
  rintro e wz ⟨rfl, hb⟩
  replace X := X.to hb
  replace HD := hide (HD.out.below hb)
  clear hb hr
  have hr := X.r6
  go_wp2_with fail
  refine (SMH.out _ _ _ HD.out (HS.out.below X.1)).mono ?_
  rintro e wz ⟨rfl, hb⟩
  replace X := X.to hb
  clear hb hr
  have hr := X.r6
  clear WAH WBH TSH TAH TBH MCH MDH SMH HA HB HC HD
  have NE : Hid (∀ W A5 c5, SerSl W Ser0 ⟨A5, c5⟩ → Calls Try.prog 12 #[.agg #[.int .i64 0, .int .i64 0, .slice A5 0 c5]] W (BPost true W)) := hide (fun W A5 c5 h => by
    have := none_any Ser0 ⟨A5, c5⟩ W h
    rw [show sameB Ser0 ⟨0, 0, []⟩ = true by decide] at this
    exact this)
  by_cases hz : mgE ⟨fr, st, l⟩ ⟨fr', st', l'⟩ = 0
  rotate_left
  · have ez : mgS ⟨fr, st, l⟩ ⟨fr', st', l'⟩ = Ser0 := by unfold mgS; exact if_neg hz
    rw [ez] at MZH
    have z3 : (mgE ⟨fr, st, l⟩ ⟨fr', st', l'⟩ == 0) = false := beq_eq_false_iff_ne.2 hz
    have z4 : (mgE ⟨fr, st, l⟩ ⟨fr', st', l'⟩ != 0) = true := by simpa using hz
    clear ez hz
    generalize mgE ⟨fr, st, l⟩ ⟨fr', st', l'⟩ = E at *
    go_wp2_with fail
    refine (MZH.out _ (HS.out.below X.1) (HT.out.below X.1)).mono ?_
    intro e wZ hq
    obtain ⟨hb, A5, c5, rfl, hs3⟩ := hq.out
    replace X := (X.to hb).alloc #[.int .i64 0, .int .i64 0, .slice A5 0 c5] 24
    have bA : Below wZ.heap.size wZ (wZ.alloc (.cells #[.int .i64 0, .int .i64 0, .slice A5 0 c5] 24)) := (Below.refl _ _).alloc (Nat.le_refl _) _
    have HZ := hide (SerSl.below hs3 bA)
    clear hb hr hq hs3 bA
    have hr := X.r7
    go_wp2_with fail
    refine (NE.out _ _ _ HZ.out).mono ?_
    rintro e wz ⟨rfl, hb⟩
    replace X := X.to hb
    clear hb hr
    go_wp2
    go_ret
    exact ⟨rfl, X.1⟩
  · obtain ⟨va, vb, hst, hN, p, q, hp, hq, bp, bq, gp, gq⟩ := merge_two hz
    have ez : mgS ⟨fr, st, l⟩ ⟨fr', st', l'⟩ = ⟨mgF ⟨fr, st, l⟩ ⟨fr', st', l'⟩, st, mgL ⟨fr, st, l⟩ ⟨fr', st', l'⟩ (mgN ⟨fr, st, l⟩ ⟨fr', st', l'⟩)⟩ := by unfold mgS; exact if_pos hz
    rw [ez, hz] at MZH
    have ln := mgL_length ⟨fr, st, l⟩ ⟨fr', st', l'⟩ (mgN ⟨fr, st, l⟩ ⟨fr', st', l'⟩)
    rw [← ln] at bp bq
    have hp' : fr - mgF ⟨fr, st, l⟩ ⟨fr', st', l'⟩ = st * (p : Int) := hp
    have hq' : fr' - mgF ⟨fr, st, l⟩ ⟨fr', st', l'⟩ = st * (q : Int) := hq
    have hst' : st = st' := hst
    have mfb := (mg_bd va vb).1
    have v1 := HV.out.1
    have vf := HV.out.2
    have vf' : -68719476736 ≤ fr' ∧ fr' ≤ 68719476736 := vb.fr
    have p0 : 0 ≤ st * (p : Int) := Int.mul_nonneg (by omega) (by omega)
    have q0 : 0 ≤ st * (q : Int) := Int.mul_nonneg (by omega) (by omega)
    have ok1 : ∀ i, i < l.length → -1 ≤ l.getD i 0 := fun i hi => (va.ok i hi).1
    have ok2 : ∀ i, i < l'.length → -1 ≤ l'.getD i 0 := fun i hi => (vb.ok i hi).1
    have gp' : ∀ i, i < l.length → (l.getD i 0 = -1 ∨ (mgL ⟨fr, st, l⟩ ⟨fr', st', l'⟩ (mgN ⟨fr, st, l⟩ ⟨fr', st', l'⟩)).getD (p + i) 0 = l.getD i 0) := gp
    have gq' : ∀ i, i < l'.length → (l'.getD i 0 = -1 ∨ 0 ≤ (mgL ⟨fr, st, l⟩ ⟨fr', st', l'⟩ (mgN ⟨fr, st, l⟩ ⟨fr', st', l'⟩)).getD (q + i) 0) := gq
    have bp' : p + l.length ≤ (mgL ⟨fr, st, l⟩ ⟨fr', st', l'⟩ (mgN ⟨fr, st, l⟩ ⟨fr', st', l'⟩)).length := bp
    have bq' : q + l'.length ≤ (mgL ⟨fr, st, l⟩ ⟨fr', st', l'⟩ (mgN ⟨fr, st, l⟩ ⟨fr', st', l'⟩)).length := bq
    have LN : (mgL ⟨fr, st, l⟩ ⟨fr', st', l'⟩ (mgN ⟨fr, st, l⟩ ⟨fr', st', l'⟩)).length ≤ 10000 := by omega
    subst hst'
    clear ez hz gp gq bp bq ln hN va vb hp hq hst
    generalize mgL ⟨fr, st, l⟩ ⟨fr', st, l'⟩ (mgN ⟨fr, st, l⟩ ⟨fr', st, l'⟩) = Z at *
    generalize mgF ⟨fr, st, l⟩ ⟨fr', st, l'⟩ = F at *
    have x1 : IntKind.i64.wrap (fr - F) = st * (p : Int) := (IntWalk.i64_in _ (by omega)).trans hp'
    have x2 : IntKind.i64.wrap (fr' - F) = st * (q : Int) := (IntWalk.i64_in _ (by omega)).trans hq'
    have x3 : (st * (p : Int)).tdiv st = (p : Int) := Int.mul_tdiv_cancel_left _ (by omega)
    have x4 : (st * (q : Int)).tdiv st = (q : Int) := Int.mul_tdiv_cancel_left _ (by omega)
    have x5 : IntKind.i64.wrap ((st * (p : Int)).tdiv st) = (p : Int) := by rw [x3]; exact IntWalk.i64_in _ (by omega)
    have x6 : IntKind.i64.wrap ((st * (q : Int)).tdiv st) = (q : Int) := by rw [x4]; exact IntWalk.i64_in _ (by omega)
    have x50 : IntKind.i64.wrap (p : Int) = (p : Int) := IntWalk.i64_in _ (by omega)
    have x60 : IntKind.i64.wrap (q : Int) = (q : Int) := IntWalk.i64_in _ (by omega)
    have c1 : decide (fr < F) = false := decide_eq_false (by omega)
    have c2 : decide (fr' < F) = false := decide_eq_false (by omega)
    have z5 : (st == 0) = false := beq_eq_false_iff_ne.2 (by omega)
    have z6 : ¬ st = 0 := by omega
    have GP := hide gp'
    have GQ := hide gq'
    have O1 := hide ok1
    have O2 := hide ok2
    have BB := hide (And.intro bp' (And.intro bq' LN))
    have HPQ := hide (And.intro hp' hq')
    clear gp' gq' ok1 ok2 bp' bq' LN hp' hq' mfb v1 vf vf' p0 q0
    generalize st * (p : Int) = sp at *
    generalize st * (q : Int) = sq at *
    go_wp2_with fail
    refine (MZH.out _ (HS.out.below X.1) (HT.out.below X.1)).mono ?_
    intro e wZ hq
    obtain ⟨hb, A5, c5, rfl, hs3⟩ := SerPost.out hq
    replace X := (X.to hb).alloc #[.int .i64 F, .int .i64 st, .slice A5 Z.length c5] 24
    have bA : Below wZ.heap.size wZ (wZ.alloc (.cells #[.int .i64 F, .int .i64 st, .slice A5 Z.length c5] 24)) := (Below.refl _ _).alloc (Nat.le_refl _) _
    have HZ := hide (SerSl.below hs3 bA).1
    have HSX := hide (HS.out.below X.1).1
    have HTX := hide (HT.out.below X.1).1
    have HX := hide X.1
    clear hb hr hq hs3 bA MZH NE
    have hr := X.r7
    go_wp2
    go_loop [25, 26, 179] (fun v25 v26 v179 => ∃ i : Nat, i ≤ l.length ∧ v179 = .int .i64 (i : Int)) (fun _ _ v179 => l.length - (intOf v179).toNat)
    case atStart => exact ⟨0, by omega, rfl⟩
    case round =>
      obtain ⟨i, hi, rfl⟩ := hrel
      by_cases hlt : i < l.length
      · obtain ⟨g, o, rfl, gl, at1⟩ := HSX.out.atg (show 0 < l.length by omega)
        have c0 := at1 i hlt
        obtain ⟨g3, o3, rfl, g3l, at3⟩ := HZ.out.atg (show 0 < Z.length by have := BB.out.1; omega)
        have c5' : _ := at3 (p + i) (by have := BB.out.1; show p + i < Z.length; omega)
        have d0 := GP.out i hlt
        have d1 := O1.out i hlt
        have b1 := BB.out.1
        have b2 := BB.out.2.2
        have y1 : IntKind.i64.wrap ((p : Int) + (i : Int)) = ((p + i : Nat) : Int) := (IntWalk.i64_in _ (by omega)).trans (by omega)
        have y2 : decide ((Z.length : Int) ≤ ((p + i : Nat) : Int)) = false := decide_eq_false (by omega)
        have y20 : decide (Z.length ≤ p + i) = false := decide_eq_false (by omega)
        have y3 : (0 : Int) ≤ ((p + i : Nat) : Int) := by omega
        have y4 : ((p + i : Nat) : Int) < (Z.length : Int) := by omega
        clear at1 at3
        generalize l.getD i 0 = d at *
        generalize Z.getD (p + i) 0 = u at *
        generalize p + i = pi at *
        by_cases e : d = -1
        · have e1 : decide (0 ≤ d) = false := decide_eq_false (by omega)
          clear e d0 d1
          go_wp2
          go_round
          case rel => exact ⟨i + 1, by omega, by go_num⟩
          case measure => simp [intOf]; omega
        · have e1 : decide (0 ≤ d) = true := decide_eq_true (by omega)
          have e2 : u = d := by rcases d0 with h | h; exact absurd h e; exact h
          subst e2
          clear e d0 d1
          go_wp2
          go_round
          case rel => exact ⟨i + 1, by omega, by go_num⟩
          case measure => simp [intOf]; omega
      · go_wp2
        go_loop [27, 28, 218] (fun v27 v28 v218 => ∃ i : Nat, i ≤ l'.length ∧ v218 = .int .i64 (i : Int)) (fun _ _ v218 => l'.length - (intOf v218).toNat)
        case atStart => exact ⟨0, by omega, rfl⟩
        case round =>
          obtain ⟨i, hi, rfl⟩ := hrel
          by_cases hlt : i < l'.length
          · obtain ⟨g, o, rfl, gl, at1⟩ := HTX.out.atg (show 0 < l'.length by omega)
            have c0 := at1 i hlt
            obtain ⟨g3, o3, rfl, g3l, at3⟩ := HZ.out.atg (show 0 < Z.length by have := BB.out.2.1; omega)
            have c5' : _ := at3 (q + i) (by have := BB.out.2.1; show q + i < Z.length; omega)
            have d0 := GQ.out i hlt
            have d1 := O2.out i hlt
            have b1 := BB.out.2.1
            have b2 := BB.out.2.2
            have y1 : IntKind.i64.wrap ((q : Int) + (i : Int)) = ((q + i : Nat) : Int) := (IntWalk.i64_in _ (by omega)).trans (by omega)
            have y2 : decide ((Z.length : Int) ≤ ((q + i : Nat) : Int)) = false := decide_eq_false (by omega)
            have y20 : decide (Z.length ≤ q + i) = false := decide_eq_false (by omega)
            have y3 : (0 : Int) ≤ ((q + i : Nat) : Int) := by omega
            have y4 : ((q + i : Nat) : Int) < (Z.length : Int) := by omega
            clear at1 at3
            generalize l'.getD i 0 = d at *
            generalize Z.getD (q + i) 0 = u at *
            generalize q + i = qi at *
            by_cases e : d = -1
            · have e1 : decide (0 ≤ d) = false := decide_eq_false (by omega)
              clear e d0 d1
              go_wp2
              go_round
              case rel => exact ⟨i + 1, by omega, by go_num⟩
              case measure => simp [intOf]; omega
            · have e1 : decide (0 ≤ d) = true := decide_eq_true (by omega)
              have e2 : decide (u < 0) = false := decide_eq_false (by rcases d0 with h | h; exact absurd h e; omega)
              clear e d0 d1
              go_wp2
              go_round
              case rel => exact ⟨i + 1, by omega, by go_num⟩
              case measure => simp [intOf]; omega
          · go_wp2
            go_ret
            exact ⟨rfl, HX.out⟩
theorem parts_law (s : Ser) (a : SerA) (t : Ser) (b : SerA) (cn : Nat) (w : World) (hs : SerSl w s a) (hA : a.A = none → a.c = 0) (ht : SerSl w t b) (hc : cn ≤ 255) : Calls Try.prog 7 #[s.val a, t.val b, .int .u8 (cn : Int)] w fun e w' => e = .returned (.bool true) ∧ Below w.heap.size w w' := by
  obtain ⟨fr, st, l⟩ := s
  obtain ⟨A, c⟩ := a
  obtain ⟨fr', st', l'⟩ := t
  obtain ⟨A', c'⟩ := b
  rcases Bool.eq_false_or_eq_true (longP (l.length : Int) || longP (l'.length : Int)) with hn | hn
  · exact parts_big fr st l A c fr' st' l' A' c' cn w hs ht hn
  · obtain ⟨h1, h2⟩ := Bool.or_eq_false_iff.1 hn
    have n1 : l.length ≤ 200 := by have := of_decide_eq_false h1; omega
    have n2 : l'.length ≤ 200 := by have := of_decide_eq_false h2; omega
    rcases Bool.eq_false_or_eq_true (vS ⟨fr, st, l⟩) with hv | hv
    · exact parts_main fr st l A c fr' st' l' A' c' cn w hs ht hA hc n1 n2 hv
    · exact parts_bad fr st l A c fr' st' l' A' c' cn w hs ht n1 n2 hv
end Go.Proofs.Ytkbocphpnmpaeaa
