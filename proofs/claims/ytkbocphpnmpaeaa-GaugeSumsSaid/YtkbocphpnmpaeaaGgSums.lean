/- GaugeSums: the law's walk (printed by gen_gauge.py). -/
import Derived.Test.YtkbocphpnmpaeaaGgAwk
import Derived.Test.YtkbocphpnmpaeaaGgOne
import Derived.Test.YtkbocphpnmpaeaaGgRm
import Derived.Test.YtkbocphpnmpaeaaGgRef
namespace Go.Proofs.Ytkbocphpnmpaeaa
open Go.RowKit

theorem eqB_self (l : List Int) : eqB l l = true := decide_eq_true rfl
theorem VS.dep {s : Ser} (v : VS s) : DepB s.ds := ⟨v.le, v.ok⟩
def IPost (v : Int) (w : World) (e : Ending) (w' : World) : Prop := e = .returned (.int .i64 v) ∧ Below w.heap.size w w'
theorem rsum_b (l : List Int) (A : Option Addr) (c : Nat) (w : World) (hl : IntSl w A l) (hv : DepB l) : Calls Try.prog 20 #[.slice A l.length c] w (IPost (ps l l.length) w) :=
  (rsum_any l A c w hl hv).mono fun _ _ ⟨h, d, hd⟩ => ⟨h, by rw [hd]; exact below_drewN (Below.refl _ _) d⟩
theorem rmissing_b (l : List Int) (A : Option Addr) (c : Nat) (w : World) (hl : IntSl w A l) (hv : DepB l) : Calls Try.prog 21 #[.slice A l.length c] w (IPost (ms l l.length) w) :=
  (rmissing_any l A c w hl hv).mono fun _ _ ⟨h, d, hd⟩ => ⟨h, by rw [hd]; exact below_drewN (Below.refl _ _) d⟩
theorem equalP_b (l : List (Int × Int)) (A B : Option Addr) (c c' : Nat) (w : World) (hl : PairSl w A l) (hm : PairSl w B l) : Calls Try.prog 24 #[.slice A l.length c, .slice B l.length c'] w (BPost true w) :=
  (equalP_any l l A B c c' w hl hm true (by simp)).mono fun _ _ ⟨h, d, hd⟩ => ⟨h, by rw [hd]; exact below_drewN (Below.refl _ _) d⟩
set_option maxRecDepth 100000 in
set_option maxHeartbeats 4000000 in
theorem sums_big (s : Ser) (q : SerA) (k : Int) (w : World) (hs : SerSl w s q) (hn : 200 < s.ds.length) :
    Calls Try.prog 4 #[s.val q, .int .i64 k] w (BPost true w) := by
  obtain ⟨A, c⟩ := q
  have X := (Own.start w).alloc #[.int .i64 s.fr, .int .i64 s.st, .slice A s.ds.length c] 24
  have HS := hide hs
  have n1 : (0 : Int) ≤ (s.ds.length : Int) := by omega
  have hcap : s.ds.length ≤ c := hs.2.1
  clear hs
  have hr := X.r1
  go_enter Try.func4, Try.ntmps4
  go_wp2_with fail
  refine (awake_any _).mono ?_
  rintro e wz ⟨rfl, hb⟩
  replace X := X.to hb
  clear hb hr
  have hr := X.r1
  have XB := X.alloc #[.int .i64 s.fr, .int .i64 s.st, .slice A s.ds.length c] 24
  go_wp2_with fail
  refine (few_one s ⟨A, c⟩ _ _ (XB.2 _ (List.mem_cons_self ..))).mono ?_
  rintro e wz ⟨rfl, hb⟩
  rw [long_yes hn]
  replace X := (XB.to hb).tail
  clear hb hr XB
  have hr := X.r1
  go_wp2
  go_ret
  exact ⟨rfl, X.1⟩
set_option maxRecDepth 100000 in
set_option maxHeartbeats 4000000 in
theorem sums_bad (s : Ser) (q : SerA) (k : Int) (w : World) (hs : SerSl w s q) (hn : s.ds.length ≤ 200) (hv : vS s = false) :
    Calls Try.prog 4 #[s.val q, .int .i64 k] w (BPost true w) := by
  obtain ⟨A, c⟩ := q
  have X := (Own.start w).alloc #[.int .i64 s.fr, .int .i64 s.st, .slice A s.ds.length c] 24
  have HS := hide hs
  have n1 : (0 : Int) ≤ (s.ds.length : Int) := by omega
  have hcap : s.ds.length ≤ c := hs.2.1
  clear hs
  have hr := X.r1
  go_enter Try.func4, Try.ntmps4
  go_wp2_with fail
  refine (awake_any _).mono ?_
  rintro e wz ⟨rfl, hb⟩
  replace X := X.to hb
  clear hb hr
  have hr := X.r1
  have XB := X.alloc #[.int .i64 s.fr, .int .i64 s.st, .slice A s.ds.length c] 24
  go_wp2_with fail
  refine (few_one s ⟨A, c⟩ _ _ (XB.2 _ (List.mem_cons_self ..))).mono ?_
  rintro e wz ⟨rfl, hb⟩
  rw [long_no hn]
  replace X := (XB.to hb).tail
  clear hb hr XB
  have hr := X.r1
  go_wp2_with fail
  refine (rfvalid17_any s ⟨A, c⟩ _ (HS.out.below X.1)).mono ?_
  rintro e wz ⟨rfl, hb⟩
  rw [hv]
  replace X := X.to hb
  clear hb hr
  have hr := X.r1
  go_wp2_with fail
  refine (total_bad s ⟨A, c⟩ _ (HS.out.below X.1) hv).mono ?_
  rintro e wz ⟨rfl, hb⟩
  replace X := X.to hb
  clear hb hr
  have hr := X.r1
  go_wp2_with fail
  refine (mass_bad s ⟨A, c⟩ _ (HS.out.below X.1) hv).mono ?_
  rintro e wz ⟨hb, A1, c1, rfl, _⟩
  rename_i hq
  clear hq
  replace X := X.to hb
  clear hb hr
  have hr := X.r1
  go_wp2_with fail
  refine (gaps_bad s ⟨A, c⟩ _ (HS.out.below X.1) hv).mono ?_
  rintro e wz ⟨hb, A2, c2, rfl, _⟩
  replace X := X.to hb
  clear hb hr
  have hr := X.r1
  go_wp2_with fail
  refine (greatest_bad s ⟨A, c⟩ k _ (HS.out.below X.1) hv).mono ?_
  rintro e wz ⟨rfl, hb⟩
  replace X := X.to hb
  clear hb hr
  have hr := X.r1
  go_wp2_with fail
  refine (gvalid_any s ⟨A, c⟩ _ (HS.out.below X.1)).mono ?_
  rintro e wz ⟨rfl, hb⟩
  rw [hv]
  replace X := X.to hb
  clear hb hr
  have hr := X.r1
  go_wp2
  go_ret
  exact ⟨rfl, X.1⟩
set_option maxRecDepth 100000 in
set_option maxHeartbeats 4000000 in
theorem sums_out1 (s : Ser) (q : SerA) (k : Int) (w : World) (hs : SerSl w s q) (hn : s.ds.length ≤ 200) (hv : vS s = true) (hk0 : k < 1) :
    Calls Try.prog 4 #[s.val q, .int .i64 k] w (BPost true w) := by
  obtain ⟨A, c⟩ := q
  have X := (Own.start w).alloc #[.int .i64 s.fr, .int .i64 s.st, .slice A s.ds.length c] 24
  have HS := hide hs
  have n1 : (0 : Int) ≤ (s.ds.length : Int) := by omega
  have hcap : s.ds.length ≤ c := hs.2.1
  clear hs
  have DB := hide (vS_iff.1 hv).dep
  have hk : k < 1 ∨ (1 ≤ k ∧ (s.ds.length : Int) < k) := .inl hk0
  have hr := X.r1
  go_enter Try.func4, Try.ntmps4
  go_wp2_with fail
  refine (awake_any _).mono ?_
  rintro e wz ⟨rfl, hb⟩
  replace X := X.to hb
  clear hb hr
  have hr := X.r1
  have XB := X.alloc #[.int .i64 s.fr, .int .i64 s.st, .slice A s.ds.length c] 24
  go_wp2_with fail
  refine (few_one s ⟨A, c⟩ _ _ (XB.2 _ (List.mem_cons_self ..))).mono ?_
  rintro e wz ⟨rfl, hb⟩
  rw [long_no hn]
  replace X := (XB.to hb).tail
  clear hb hr XB
  have hr := X.r1
  go_wp2_with fail
  refine (rfvalid17_any s ⟨A, c⟩ _ (HS.out.below X.1)).mono ?_
  rintro e wz ⟨rfl, hb⟩
  rw [hv]
  replace X := X.to hb
  clear hb hr
  have hr := X.r1
  go_wp2_with fail
  refine (total_in s ⟨A, c⟩ _ (HS.out.below X.1) hv).mono ?_
  rintro e wz ⟨rfl, hb⟩
  replace X := X.to hb
  clear hb hr
  have hr := X.r1
  go_wp2_with fail
  refine (mass_in s ⟨A, c⟩ _ (HS.out.below X.1) hv).mono ?_
  rintro e wz ⟨hb, A1, c1, rfl, hm, _⟩
  have HM := hide hm
  clear hm
  replace X := X.to hb
  clear hb hr
  have hr := X.r1
  go_wp2_with fail
  refine (gaps_in s ⟨A, c⟩ _ (HS.out.below X.1) hv).mono ?_
  rintro e wz ⟨hb, A2, c2, rfl, hg⟩
  replace X := X.to hb
  replace HM := hide (HM.out.below hb)
  clear hb hr
  have hr := X.r1
  have HG := hide hg
  clear hg
  go_wp2_with fail
  refine (greatest_range s ⟨A, c⟩ k _ (HS.out.below X.1) hv hk).mono ?_
  rintro e wz ⟨rfl, hb⟩
  replace X := X.to hb
  replace HM := hide (HM.out.below hb)
  replace HG := hide (HG.out.below hb)
  clear hb hr
  have hr := X.r1
  go_wp2_with fail
  refine (gvalid_any s ⟨A, c⟩ _ (HS.out.below X.1)).mono ?_
  rintro e wz ⟨rfl, hb⟩
  rw [hv]
  replace X := X.to hb
  replace HM := hide (HM.out.below hb)
  replace HG := hide (HG.out.below hb)
  clear hb hr
  have hr := X.r1
  go_wp2_with fail
  refine (rsum_b s.ds A c _ (HS.out.below X.1).1 DB.out).mono ?_
  rintro e wz ⟨rfl, hb⟩
  replace X := X.to hb
  replace HM := hide (HM.out.below hb)
  replace HG := hide (HG.out.below hb)
  clear hb hr
  have hr := X.r1
  generalize ps s.ds s.ds.length = P at *
  go_wp2_with fail
  refine (rmissing_b s.ds A c _ (HS.out.below X.1).1 DB.out).mono ?_
  rintro e wz ⟨rfl, hb⟩
  replace X := X.to hb
  replace HM := hide (HM.out.below hb)
  replace HG := hide (HG.out.below hb)
  clear hb hr
  have hr := X.r1
  generalize ms s.ds s.ds.length = M at *
  go_wp2_with fail
  refine (rmass_any s.ds A c _ (HS.out.below X.1).1 DB.out hcap).mono ?_
  rintro e wz ⟨hb, A3, c3, rfl, hm⟩
  replace X := X.to hb
  replace HM := hide (HM.out.below hb)
  replace HG := hide (HG.out.below hb)
  clear hb hr
  have hr := X.r1
  have HM2 := hide hm
  clear hm
  go_wp2_with fail
  refine (equalI_any (massL s.ds) (massL s.ds) A1 A3 c1 c3 _ HM.out HM2.out).mono ?_
  rintro e wz ⟨rfl, hb⟩
  rw [eqB_self]
  replace X := X.to hb
  replace HG := hide (HG.out.below hb)
  clear hb hr
  have hr := X.r1
  go_wp2_with fail
  refine (rgaps_any s.ds A c _ (HS.out.below X.1).1 DB.out).mono ?_
  rintro e wz ⟨hb, A4, c4, rfl, hg⟩
  replace X := X.to hb
  replace HG := hide (HG.out.below hb)
  clear hb hr
  have hr := X.r1
  have HG2 := hide hg
  clear hg
  go_wp2_with fail
  refine (equalP_b (gpL s.ds s.ds.length) A2 A4 c2 c4 _ HG.out HG2.out).mono ?_
  rintro e wz ⟨rfl, hb⟩
  replace X := X.to hb
  clear hb hr
  have hr := X.r1
  go_wp2
  go_ret
  exact ⟨rfl, X.1⟩
set_option maxRecDepth 100000 in
set_option maxHeartbeats 4000000 in
theorem sums_out2 (s : Ser) (q : SerA) (k : Int) (w : World) (hs : SerSl w s q) (hn : s.ds.length ≤ 200) (hv : vS s = true) (hk1 : 1 ≤ k) (hk2 : (s.ds.length : Int) < k) :
    Calls Try.prog 4 #[s.val q, .int .i64 k] w (BPost true w) := by
  obtain ⟨A, c⟩ := q
  have X := (Own.start w).alloc #[.int .i64 s.fr, .int .i64 s.st, .slice A s.ds.length c] 24
  have HS := hide hs
  have n1 : (0 : Int) ≤ (s.ds.length : Int) := by omega
  have hcap : s.ds.length ≤ c := hs.2.1
  clear hs
  have DB := hide (vS_iff.1 hv).dep
  have hk : k < 1 ∨ (1 ≤ k ∧ (s.ds.length : Int) < k) := .inr ⟨hk1, hk2⟩
  have hr := X.r1
  go_enter Try.func4, Try.ntmps4
  go_wp2_with fail
  refine (awake_any _).mono ?_
  rintro e wz ⟨rfl, hb⟩
  replace X := X.to hb
  clear hb hr
  have hr := X.r1
  have XB := X.alloc #[.int .i64 s.fr, .int .i64 s.st, .slice A s.ds.length c] 24
  go_wp2_with fail
  refine (few_one s ⟨A, c⟩ _ _ (XB.2 _ (List.mem_cons_self ..))).mono ?_
  rintro e wz ⟨rfl, hb⟩
  rw [long_no hn]
  replace X := (XB.to hb).tail
  clear hb hr XB
  have hr := X.r1
  go_wp2_with fail
  refine (rfvalid17_any s ⟨A, c⟩ _ (HS.out.below X.1)).mono ?_
  rintro e wz ⟨rfl, hb⟩
  rw [hv]
  replace X := X.to hb
  clear hb hr
  have hr := X.r1
  go_wp2_with fail
  refine (total_in s ⟨A, c⟩ _ (HS.out.below X.1) hv).mono ?_
  rintro e wz ⟨rfl, hb⟩
  replace X := X.to hb
  clear hb hr
  have hr := X.r1
  go_wp2_with fail
  refine (mass_in s ⟨A, c⟩ _ (HS.out.below X.1) hv).mono ?_
  rintro e wz ⟨hb, A1, c1, rfl, hm, _⟩
  have HM := hide hm
  clear hm
  replace X := X.to hb
  clear hb hr
  have hr := X.r1
  go_wp2_with fail
  refine (gaps_in s ⟨A, c⟩ _ (HS.out.below X.1) hv).mono ?_
  rintro e wz ⟨hb, A2, c2, rfl, hg⟩
  replace X := X.to hb
  replace HM := hide (HM.out.below hb)
  clear hb hr
  have hr := X.r1
  have HG := hide hg
  clear hg
  go_wp2_with fail
  refine (greatest_range s ⟨A, c⟩ k _ (HS.out.below X.1) hv hk).mono ?_
  rintro e wz ⟨rfl, hb⟩
  replace X := X.to hb
  replace HM := hide (HM.out.below hb)
  replace HG := hide (HG.out.below hb)
  clear hb hr
  have hr := X.r1
  go_wp2_with fail
  refine (gvalid_any s ⟨A, c⟩ _ (HS.out.below X.1)).mono ?_
  rintro e wz ⟨rfl, hb⟩
  rw [hv]
  replace X := X.to hb
  replace HM := hide (HM.out.below hb)
  replace HG := hide (HG.out.below hb)
  clear hb hr
  have hr := X.r1
  go_wp2_with fail
  refine (rsum_b s.ds A c _ (HS.out.below X.1).1 DB.out).mono ?_
  rintro e wz ⟨rfl, hb⟩
  replace X := X.to hb
  replace HM := hide (HM.out.below hb)
  replace HG := hide (HG.out.below hb)
  clear hb hr
  have hr := X.r1
  generalize ps s.ds s.ds.length = P at *
  go_wp2_with fail
  refine (rmissing_b s.ds A c _ (HS.out.below X.1).1 DB.out).mono ?_
  rintro e wz ⟨rfl, hb⟩
  replace X := X.to hb
  replace HM := hide (HM.out.below hb)
  replace HG := hide (HG.out.below hb)
  clear hb hr
  have hr := X.r1
  generalize ms s.ds s.ds.length = M at *
  go_wp2_with fail
  refine (rmass_any s.ds A c _ (HS.out.below X.1).1 DB.out hcap).mono ?_
  rintro e wz ⟨hb, A3, c3, rfl, hm⟩
  replace X := X.to hb
  replace HM := hide (HM.out.below hb)
  replace HG := hide (HG.out.below hb)
  clear hb hr
  have hr := X.r1
  have HM2 := hide hm
  clear hm
  go_wp2_with fail
  refine (equalI_any (massL s.ds) (massL s.ds) A1 A3 c1 c3 _ HM.out HM2.out).mono ?_
  rintro e wz ⟨rfl, hb⟩
  rw [eqB_self]
  replace X := X.to hb
  replace HG := hide (HG.out.below hb)
  clear hb hr
  have hr := X.r1
  go_wp2_with fail
  refine (rgaps_any s.ds A c _ (HS.out.below X.1).1 DB.out).mono ?_
  rintro e wz ⟨hb, A4, c4, rfl, hg⟩
  replace X := X.to hb
  replace HG := hide (HG.out.below hb)
  clear hb hr
  have hr := X.r1
  have HG2 := hide hg
  clear hg
  go_wp2_with fail
  refine (equalP_b (gpL s.ds s.ds.length) A2 A4 c2 c4 _ HG.out HG2.out).mono ?_
  rintro e wz ⟨rfl, hb⟩
  replace X := X.to hb
  clear hb hr
  have hr := X.r1
  go_wp2
  go_ret
  exact ⟨rfl, X.1⟩
set_option maxRecDepth 100000 in
set_option maxHeartbeats 4000000 in
theorem sums_in (s : Ser) (q : SerA) (k : Int) (w : World) (hs : SerSl w s q) (hn : s.ds.length ≤ 200) (hv : vS s = true) (hk1 : 1 ≤ k) (hk2 : k ≤ (s.ds.length : Int)) :
    Calls Try.prog 4 #[s.val q, .int .i64 k] w (BPost true w) := by
  obtain ⟨A, c⟩ := q
  have X := (Own.start w).alloc #[.int .i64 s.fr, .int .i64 s.st, .slice A s.ds.length c] 24
  have HS := hide hs
  have n1 : (0 : Int) ≤ (s.ds.length : Int) := by omega
  have hcap : s.ds.length ≤ c := hs.2.1
  clear hs
  have DB := hide (vS_iff.1 hv).dep
  obtain ⟨j, rfl⟩ : ∃ j : Nat, k = (j : Int) := ⟨k.toNat, by omega⟩
  have GI := hide (fun W (h : SerSl W s ⟨A, c⟩) => greatest_in s ⟨A, c⟩ j W h hv (by omega) (by omega))
  have RG := hide (fun W (h : IntSl W A s.ds) => rgreatest17_any s.ds A c j W h DB.out hcap (by omega) (by omega))
  have hr := X.r1
  go_enter Try.func4, Try.ntmps4
  go_wp2_with fail
  refine (awake_any _).mono ?_
  rintro e wz ⟨rfl, hb⟩
  replace X := X.to hb
  clear hb hr
  have hr := X.r1
  have XB := X.alloc #[.int .i64 s.fr, .int .i64 s.st, .slice A s.ds.length c] 24
  go_wp2_with fail
  refine (few_one s ⟨A, c⟩ _ _ (XB.2 _ (List.mem_cons_self ..))).mono ?_
  rintro e wz ⟨rfl, hb⟩
  rw [long_no hn]
  replace X := (XB.to hb).tail
  clear hb hr XB
  have hr := X.r1
  go_wp2_with fail
  refine (rfvalid17_any s ⟨A, c⟩ _ (HS.out.below X.1)).mono ?_
  rintro e wz ⟨rfl, hb⟩
  rw [hv]
  replace X := X.to hb
  clear hb hr
  have hr := X.r1
  go_wp2_with fail
  refine (total_in s ⟨A, c⟩ _ (HS.out.below X.1) hv).mono ?_
  rintro e wz ⟨rfl, hb⟩
  replace X := X.to hb
  clear hb hr
  have hr := X.r1
  go_wp2_with fail
  refine (mass_in s ⟨A, c⟩ _ (HS.out.below X.1) hv).mono ?_
  rintro e wz ⟨hb, A1, c1, rfl, hm, _⟩
  have HM := hide hm
  clear hm
  replace X := X.to hb
  clear hb hr
  have hr := X.r1
  go_wp2_with fail
  refine (gaps_in s ⟨A, c⟩ _ (HS.out.below X.1) hv).mono ?_
  rintro e wz ⟨hb, A2, c2, rfl, hg⟩
  replace X := X.to hb
  replace HM := hide (HM.out.below hb)
  clear hb hr
  have hr := X.r1
  have HG := hide hg
  clear hg
  go_wp2_with fail
  refine (GI.out _ (HS.out.below X.1)).mono ?_
  rintro e wz ⟨rfl, hb⟩
  replace X := X.to hb
  replace HM := hide (HM.out.below hb)
  replace HG := hide (HG.out.below hb)
  clear hb hr
  have hr := X.r1
  go_wp2_with fail
  refine (gvalid_any s ⟨A, c⟩ _ (HS.out.below X.1)).mono ?_
  rintro e wz ⟨rfl, hb⟩
  rw [hv]
  replace X := X.to hb
  replace HM := hide (HM.out.below hb)
  replace HG := hide (HG.out.below hb)
  clear hb hr
  have hr := X.r1
  go_wp2_with fail
  refine (rsum_b s.ds A c _ (HS.out.below X.1).1 DB.out).mono ?_
  rintro e wz ⟨rfl, hb⟩
  replace X := X.to hb
  replace HM := hide (HM.out.below hb)
  replace HG := hide (HG.out.below hb)
  clear hb hr
  have hr := X.r1
  generalize ps s.ds s.ds.length = P at *
  go_wp2_with fail
  refine (rmissing_b s.ds A c _ (HS.out.below X.1).1 DB.out).mono ?_
  rintro e wz ⟨rfl, hb⟩
  replace X := X.to hb
  replace HM := hide (HM.out.below hb)
  replace HG := hide (HG.out.below hb)
  clear hb hr
  have hr := X.r1
  generalize ms s.ds s.ds.length = M at *
  go_wp2_with fail
  refine (rmass_any s.ds A c _ (HS.out.below X.1).1 DB.out hcap).mono ?_
  rintro e wz ⟨hb, A3, c3, rfl, hm⟩
  replace X := X.to hb
  replace HM := hide (HM.out.below hb)
  replace HG := hide (HG.out.below hb)
  clear hb hr
  have hr := X.r1
  have HM2 := hide hm
  clear hm
  go_wp2_with fail
  refine (equalI_any (massL s.ds) (massL s.ds) A1 A3 c1 c3 _ HM.out HM2.out).mono ?_
  rintro e wz ⟨rfl, hb⟩
  rw [eqB_self]
  replace X := X.to hb
  replace HG := hide (HG.out.below hb)
  clear hb hr
  have hr := X.r1
  go_wp2_with fail
  refine (rgaps_any s.ds A c _ (HS.out.below X.1).1 DB.out).mono ?_
  rintro e wz ⟨hb, A4, c4, rfl, hg⟩
  replace X := X.to hb
  replace HG := hide (HG.out.below hb)
  clear hb hr
  have hr := X.r1
  have HG2 := hide hg
  clear hg
  go_wp2_with fail
  refine (equalP_b (gpL s.ds s.ds.length) A2 A4 c2 c4 _ HG.out HG2.out).mono ?_
  rintro e wz ⟨rfl, hb⟩
  replace X := X.to hb
  clear hb hr
  have hr := X.r1
  go_wp2_with fail
  refine (RG.out _ (HS.out.below X.1).1).mono ?_
  rintro e wz ⟨rfl, hb⟩
  replace X := X.to hb
  clear hb hr
  have hr := X.r1
  generalize gm s.ds j s.ds.length = G at *
  generalize gf s.ds j s.ds.length = F at *
  go_wp2
  go_ret
  exact ⟨rfl, X.1⟩
theorem sums_law (s : Ser) (q : SerA) (k : Int) (w : World) (hs : SerSl w s q) : Calls Try.prog 4 #[s.val q, .int .i64 k] w fun e w' => e = .returned (.bool true) ∧ Below w.heap.size w w' := by
  rcases Nat.lt_or_ge 200 s.ds.length with hn | hn
  · exact sums_big s q k w hs hn
  · rcases Bool.eq_false_or_eq_true (vS s) with hv | hv
    · rcases Int.lt_or_le k 1 with h1 | h1
      · exact sums_out1 s q k w hs hn hv h1
      · rcases Int.lt_or_le (s.ds.length : Int) k with h2 | h2
        · exact sums_out2 s q k w hs hn hv h1 h2
        · exact sums_in s q k w hs hn hv h1 h2
    · exact sums_bad s q k w hs hn hv
end Go.Proofs.Ytkbocphpnmpaeaa
