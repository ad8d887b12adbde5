/- IntensityRecords: the law's walk (printed by gen_records.py). -/
import Derived.Test.YtjnifgheipmanaaRcRc
import Derived.Test.YtjnifgheipmanaaGgRef
import Derived.Test.YtjnifgheipmanaaItRv
namespace Go.Proofs.Ytjnifgheipmanaa
open Go.RowKit

theorem eqB_self (l : List Int) : eqB l l = true := decide_eq_true rfl
set_option maxHeartbeats 4000000 in
theorem rec_big (T : Tab) (a : TabA) (s : Ser) (q : SerA) (ds : List Int) (B : Option Addr) (cd : Nat) (y : Int) (w : World) (ht : TabSl w T a) (hs : SerSl w s q) (hd : IntSl w B ds) (t1 : bigT T = true) :
    Calls Try.prog 7 #[T.val a, s.val q, .slice B ds.length cd, .int .i64 y] w fun e w' => e = .returned (.bool true) ∧ Below w.heap.size w w' := by
  obtain ⟨A1, A2, A3, k1, k2, k3⟩ := a
  obtain ⟨A, c⟩ := q
  have X := ((Own.start w).alloc #[.slice A1 T.ds.length k1, .slice A2 T.ps.length k2, .slice A3 T.rows.length k3] 25).alloc #[.int .i64 s.fr, .int .i64 s.st, .slice A s.ds.length c] 41
  simp only [World.size_alloc] at X
  have HT := hide ht
  have HS := hide hs
  have HD := hide hd
  have n0 : (0 : Int) ≤ (ds.length : Int) := by omega
  have n1 : (0 : Int) ≤ (s.ds.length : Int) := by omega
  clear ht hs hd
  have hr := X.r2
  go_enter Try.func7, Try.ntmps7
  go_wp2_with fail
  refine (awake_any _).mono ?_
  rintro e wz ⟨rfl, hb⟩
  replace X := X.to hb
  clear hb hr
  have hr := X.r2
  go_wp2_with fail
  refine (large_any T ⟨A1, A2, A3, k1, k2, k3⟩ _ (HT.out.below X.1)).mono ?_
  rintro e wz ⟨rfl, hb⟩
  rw [t1]
  replace X := X.to hb
  clear hb hr
  have hr := X.r2
  go_wp2
  go_ret
  exact ⟨rfl, X.1⟩
set_option maxHeartbeats 4000000 in
theorem rec_l60 (T : Tab) (a : TabA) (s : Ser) (q : SerA) (ds : List Int) (B : Option Addr) (cd : Nat) (y : Int) (w : World) (ht : TabSl w T a) (hs : SerSl w s q) (hd : IntSl w B ds) (t1 : bigT T = false) (g1 : 60 < s.ds.length) :
    Calls Try.prog 7 #[T.val a, s.val q, .slice B ds.length cd, .int .i64 y] w fun e w' => e = .returned (.bool true) ∧ Below w.heap.size w w' := by
  obtain ⟨A1, A2, A3, k1, k2, k3⟩ := a
  obtain ⟨A, c⟩ := q
  have X := ((Own.start w).alloc #[.slice A1 T.ds.length k1, .slice A2 T.ps.length k2, .slice A3 T.rows.length k3] 25).alloc #[.int .i64 s.fr, .int .i64 s.st, .slice A s.ds.length c] 41
  simp only [World.size_alloc] at X
  have HT := hide ht
  have HS := hide hs
  have HD := hide hd
  have n0 : (0 : Int) ≤ (ds.length : Int) := by omega
  have n1 : (0 : Int) ≤ (s.ds.length : Int) := by omega
  clear ht hs hd
  have g1z : (60 : Int) < (s.ds.length : Int) := by omega
  have hr := X.r2
  go_enter Try.func7, Try.ntmps7
  go_wp2_with fail
  refine (awake_any _).mono ?_
  rintro e wz ⟨rfl, hb⟩
  replace X := X.to hb
  clear hb hr
  have hr := X.r2
  go_wp2_with fail
  refine (large_any T ⟨A1, A2, A3, k1, k2, k3⟩ _ (HT.out.below X.1)).mono ?_
  rintro e wz ⟨rfl, hb⟩
  rw [t1]
  replace X := X.to hb
  clear hb hr
  have hr := X.r2
  go_wp2
  go_ret
  exact ⟨rfl, X.1⟩
set_option maxHeartbeats 4000000 in
theorem rec_n20 (T : Tab) (a : TabA) (s : Ser) (q : SerA) (ds : List Int) (B : Option Addr) (cd : Nat) (y : Int) (w : World) (ht : TabSl w T a) (hs : SerSl w s q) (hd : IntSl w B ds) (t1 : bigT T = false) (g1 : s.ds.length ≤ 60) (g2 : 20 < ds.length) (g3 : ds.length ≤ 100) :
    Calls Try.prog 7 #[T.val a, s.val q, .slice B ds.length cd, .int .i64 y] w fun e w' => e = .returned (.bool true) ∧ Below w.heap.size w w' := by
  obtain ⟨A1, A2, A3, k1, k2, k3⟩ := a
  obtain ⟨A, c⟩ := q
  have X := ((Own.start w).alloc #[.slice A1 T.ds.length k1, .slice A2 T.ps.length k2, .slice A3 T.rows.length k3] 25).alloc #[.int .i64 s.fr, .int .i64 s.st, .slice A s.ds.length c] 41
  simp only [World.size_alloc] at X
  have HT := hide ht
  have HS := hide hs
  have HD := hide hd
  have n0 : (0 : Int) ≤ (ds.length : Int) := by omega
  have n1 : (0 : Int) ≤ (s.ds.length : Int) := by omega
  clear ht hs hd
  have g1z : ¬ (60 : Int) < (s.ds.length : Int) := by omega
  have g2z : (20 : Int) < (ds.length : Int) := by omega
  have g3z : (ds.length : Int) ≤ 100 := by omega
  have hr := X.r2
  go_enter Try.func7, Try.ntmps7
  go_wp2_with fail
  refine (awake_any _).mono ?_
  rintro e wz ⟨rfl, hb⟩
  replace X := X.to hb
  clear hb hr
  have hr := X.r2
  go_wp2_with fail
  refine (large_any T ⟨A1, A2, A3, k1, k2, k3⟩ _ (HT.out.below X.1)).mono ?_
  rintro e wz ⟨rfl, hb⟩
  rw [t1]
  replace X := X.to hb
  clear hb hr
  have hr := X.r2
  go_wp2
  go_ret
  exact ⟨rfl, X.1⟩
set_option maxHeartbeats 4000000 in
theorem rec_n105 (T : Tab) (a : TabA) (s : Ser) (q : SerA) (ds : List Int) (B : Option Addr) (cd : Nat) (y : Int) (w : World) (ht : TabSl w T a) (hs : SerSl w s q) (hd : IntSl w B ds) (t1 : bigT T = false) (g1 : s.ds.length ≤ 60) (g3 : 105 < ds.length) :
    Calls Try.prog 7 #[T.val a, s.val q, .slice B ds.length cd, .int .i64 y] w fun e w' => e = .returned (.bool true) ∧ Below w.heap.size w w' := by
  obtain ⟨A1, A2, A3, k1, k2, k3⟩ := a
  obtain ⟨A, c⟩ := q
  have X := ((Own.start w).alloc #[.slice A1 T.ds.length k1, .slice A2 T.ps.length k2, .slice A3 T.rows.length k3] 25).alloc #[.int .i64 s.fr, .int .i64 s.st, .slice A s.ds.length c] 41
  simp only [World.size_alloc] at X
  have HT := hide ht
  have HS := hide hs
  have HD := hide hd
  have n0 : (0 : Int) ≤ (ds.length : Int) := by omega
  have n1 : (0 : Int) ≤ (s.ds.length : Int) := by omega
  clear ht hs hd
  have g1z : ¬ (60 : Int) < (s.ds.length : Int) := by omega
  have g2z : (20 : Int) < (ds.length : Int) := by omega
  have g3z : ¬ (ds.length : Int) ≤ 100 := by omega
  have g4z : (105 : Int) < (ds.length : Int) := by omega
  have hr := X.r2
  go_enter Try.func7, Try.ntmps7
  go_wp2_with fail
  refine (awake_any _).mono ?_
  rintro e wz ⟨rfl, hb⟩
  replace X := X.to hb
  clear hb hr
  have hr := X.r2
  go_wp2_with fail
  refine (large_any T ⟨A1, A2, A3, k1, k2, k3⟩ _ (HT.out.below X.1)).mono ?_
  rintro e wz ⟨rfl, hb⟩
  rw [t1]
  replace X := X.to hb
  clear hb hr
  have hr := X.r2
  go_wp2
  go_ret
  exact ⟨rfl, X.1⟩
set_option maxHeartbeats 4000000 in
theorem rec_as (T : Tab) (a : TabA) (s : Ser) (q : SerA) (ds : List Int) (B : Option Addr) (cd : Nat) (y : Int) (w : World) (ht : TabSl w T a) (hs : SerSl w s q) (hd : IntSl w B ds) (t1 : bigT T = false) (g1 : s.ds.length ≤ 60) (g2 : ds.length ≤ 20) (hv : vS s = false) :
    Calls Try.prog 7 #[T.val a, s.val q, .slice B ds.length cd, .int .i64 y] w fun e w' => e = .returned (.bool true) ∧ Below w.heap.size w w' := by
  obtain ⟨A1, A2, A3, k1, k2, k3⟩ := a
  obtain ⟨A, c⟩ := q
  have X := ((Own.start w).alloc #[.slice A1 T.ds.length k1, .slice A2 T.ps.length k2, .slice A3 T.rows.length k3] 25).alloc #[.int .i64 s.fr, .int .i64 s.st, .slice A s.ds.length c] 41
  simp only [World.size_alloc] at X
  have HT := hide ht
  have HS := hide hs
  have HD := hide hd
  have n0 : (0 : Int) ≤ (ds.length : Int) := by omega
  have n1 : (0 : Int) ≤ (s.ds.length : Int) := by omega
  clear ht hs hd
  have g1z : ¬ (60 : Int) < (s.ds.length : Int) := by omega
  have g2z : ¬ (20 : Int) < (ds.length : Int) := by omega
  have g3z : (ds.length : Int) ≤ 100 := by omega
  have g4z : ¬ (105 : Int) < (ds.length : Int) := by omega
  have hr := X.r2
  go_enter Try.func7, Try.ntmps7
  go_wp2_with fail
  refine (awake_any _).mono ?_
  rintro e wz ⟨rfl, hb⟩
  replace X := X.to hb
  clear hb hr
  have hr := X.r2
  go_wp2_with fail
  refine (large_any T ⟨A1, A2, A3, k1, k2, k3⟩ _ (HT.out.below X.1)).mono ?_
  rintro e wz ⟨rfl, hb⟩
  rw [t1]
  replace X := X.to hb
  clear hb hr
  have hr := X.r2
  go_wp2_with fail
  refine (of_bad s ⟨A, c⟩ ds B cd _ (HS.out.below X.1) hv).mono ?_
  rintro e wz ⟨hb, A', c', rfl, hl⟩
  have HL := hide hl
  clear hl
  replace X := X.to hb
  clear hb hr
  have hr := X.r2
  go_wp2_with fail
  refine (covers_bad T ⟨A1, A2, A3, k1, k2, k3⟩ s ⟨A, c⟩ y _ (HT.out.below X.1) (HS.out.below X.1) (.inr hv)).mono ?_
  rintro e wz ⟨rfl, hb⟩
  replace X := X.to hb
  replace HL := hide (HL.out.below hb)
  clear hb hr
  have hr := X.r2
  go_wp2_with fail
  refine (rfvalid17_any s ⟨A, c⟩ _ (HS.out.below X.1)).mono ?_
  rintro e wz ⟨rfl, hb⟩
  rw [hv]
  replace X := X.to hb
  replace HL := hide (HL.out.below hb)
  clear hb hr
  have hr := X.r2
  go_wp2
  go_ret
  exact ⟨rfl, X.1⟩
set_option maxHeartbeats 4000000 in
theorem rec_at (T : Tab) (a : TabA) (s : Ser) (q : SerA) (ds : List Int) (B : Option Addr) (cd : Nat) (y : Int) (w : World) (ht : TabSl w T a) (hs : SerSl w s q) (hd : IntSl w B ds) (t1 : bigT T = false) (g1 : s.ds.length ≤ 60) (g2 : ds.length ≤ 20) (hv : vS s = true) (hw : vT T = false) :
    Calls Try.prog 7 #[T.val a, s.val q, .slice B ds.length cd, .int .i64 y] w fun e w' => e = .returned (.bool true) ∧ Below w.heap.size w w' := by
  obtain ⟨A1, A2, A3, k1, k2, k3⟩ := a
  obtain ⟨A, c⟩ := q
  have X := ((Own.start w).alloc #[.slice A1 T.ds.length k1, .slice A2 T.ps.length k2, .slice A3 T.rows.length k3] 25).alloc #[.int .i64 s.fr, .int .i64 s.st, .slice A s.ds.length c] 41
  simp only [World.size_alloc] at X
  have HT := hide ht
  have HS := hide hs
  have HD := hide hd
  have n0 : (0 : Int) ≤ (ds.length : Int) := by omega
  have n1 : (0 : Int) ≤ (s.ds.length : Int) := by omega
  clear ht hs hd
  have g1z : ¬ (60 : Int) < (s.ds.length : Int) := by omega
  have g2z : ¬ (20 : Int) < (ds.length : Int) := by omega
  have g3z : (ds.length : Int) ≤ 100 := by omega
  have g4z : ¬ (105 : Int) < (ds.length : Int) := by omega
  have hr := X.r2
  go_enter Try.func7, Try.ntmps7
  go_wp2_with fail
  refine (awake_any _).mono ?_
  rintro e wz ⟨rfl, hb⟩
  replace X := X.to hb
  clear hb hr
  have hr := X.r2
  go_wp2_with fail
  refine (large_any T ⟨A1, A2, A3, k1, k2, k3⟩ _ (HT.out.below X.1)).mono ?_
  rintro e wz ⟨rfl, hb⟩
  rw [t1]
  replace X := X.to hb
  clear hb hr
  have hr := X.r2
  go_wp2_with fail
  refine (of_any s ⟨A, c⟩ ds B cd _ (HS.out.below X.1) (HD.out.below X.1) hv).mono ?_
  rintro e wz ⟨hb, A', c', rfl, hl⟩
  have HL := hide hl
  clear hl
  replace X := X.to hb
  clear hb hr
  have hr := X.r2
  go_wp2_with fail
  refine (covers_bad T ⟨A1, A2, A3, k1, k2, k3⟩ s ⟨A, c⟩ y _ (HT.out.below X.1) (HS.out.below X.1) (.inl hw)).mono ?_
  rintro e wz ⟨rfl, hb⟩
  replace X := X.to hb
  replace HL := hide (HL.out.below hb)
  clear hb hr
  have hr := X.r2
  go_wp2_with fail
  refine (rfvalid17_any s ⟨A, c⟩ _ (HS.out.below X.1)).mono ?_
  rintro e wz ⟨rfl, hb⟩
  rw [hv]
  replace X := X.to hb
  replace HL := hide (HL.out.below hb)
  clear hb hr
  have hr := X.r2
  go_wp2_with fail
  refine (rof_any s ⟨A, c⟩ ds B cd _ (HS.out.below X.1) (HD.out.below X.1) hv).mono ?_
  rintro e wz ⟨hb, A2', c2', rfl, hl⟩
  replace X := X.to hb
  replace HL := hide (HL.out.below hb)
  clear hb hr
  have hr := X.r2
  have HL2 := hide hl
  clear hl
  go_wp2_with fail
  refine (equalI_any (ofL s ds) (ofL s ds) A' A2' c' c2' _ HL.out HL2.out).mono ?_
  rintro e wz ⟨rfl, hb⟩
  rw [eqB_self]
  replace X := X.to hb
  clear hb hr
  have hr := X.r2
  go_wp2_with fail
  refine (rfvalid_any T ⟨A1, A2, A3, k1, k2, k3⟩ _ (HT.out.below X.1)).mono ?_
  rintro e wz ⟨rfl, hb⟩
  rw [hw]
  replace X := X.to hb
  clear hb hr
  have hr := X.r2
  go_wp2
  go_ret
  exact ⟨rfl, X.1⟩
set_option maxHeartbeats 4000000 in
theorem rec_ao (T : Tab) (a : TabA) (s : Ser) (q : SerA) (ds : List Int) (B : Option Addr) (cd : Nat) (y : Int) (w : World) (ht : TabSl w T a) (hs : SerSl w s q) (hd : IntSl w B ds) (t1 : bigT T = false) (g1 : s.ds.length ≤ 60) (g2 : ds.length ≤ 20) (hv : vS s = true) (hw : vT T = true) (hy : inL T.ps y = false) :
    Calls Try.prog 7 #[T.val a, s.val q, .slice B ds.length cd, .int .i64 y] w fun e w' => e = .returned (.bool true) ∧ Below w.heap.size w w' := by
  obtain ⟨A1, A2, A3, k1, k2, k3⟩ := a
  obtain ⟨A, c⟩ := q
  have X := ((Own.start w).alloc #[.slice A1 T.ds.length k1, .slice A2 T.ps.length k2, .slice A3 T.rows.length k3] 25).alloc #[.int .i64 s.fr, .int .i64 s.st, .slice A s.ds.length c] 41
  simp only [World.size_alloc] at X
  have HT := hide ht
  have HS := hide hs
  have HD := hide hd
  have n0 : (0 : Int) ≤ (ds.length : Int) := by omega
  have n1 : (0 : Int) ≤ (s.ds.length : Int) := by omega
  clear ht hs hd
  have g1z : ¬ (60 : Int) < (s.ds.length : Int) := by omega
  have g2z : ¬ (20 : Int) < (ds.length : Int) := by omega
  have g3z : (ds.length : Int) ≤ 100 := by omega
  have g4z : ¬ (105 : Int) < (ds.length : Int) := by omega
  have hr := X.r2
  go_enter Try.func7, Try.ntmps7
  go_wp2_with fail
  refine (awake_any _).mono ?_
  rintro e wz ⟨rfl, hb⟩
  replace X := X.to hb
  clear hb hr
  have hr := X.r2
  go_wp2_with fail
  refine (large_any T ⟨A1, A2, A3, k1, k2, k3⟩ _ (HT.out.below X.1)).mono ?_
  rintro e wz ⟨rfl, hb⟩
  rw [t1]
  replace X := X.to hb
  clear hb hr
  have hr := X.r2
  go_wp2_with fail
  refine (of_any s ⟨A, c⟩ ds B cd _ (HS.out.below X.1) (HD.out.below X.1) hv).mono ?_
  rintro e wz ⟨hb, A', c', rfl, hl⟩
  have HL := hide hl
  clear hl
  replace X := X.to hb
  clear hb hr
  have hr := X.r2
  go_wp2_with fail
  refine (covers_out T ⟨A1, A2, A3, k1, k2, k3⟩ s ⟨A, c⟩ y _ (HT.out.below X.1) (HS.out.below X.1) hw hv hy).mono ?_
  rintro e wz ⟨rfl, hb⟩
  replace X := X.to hb
  replace HL := hide (HL.out.below hb)
  clear hb hr
  have hr := X.r2
  go_wp2_with fail
  refine (rfvalid17_any s ⟨A, c⟩ _ (HS.out.below X.1)).mono ?_
  rintro e wz ⟨rfl, hb⟩
  rw [hv]
  replace X := X.to hb
  replace HL := hide (HL.out.below hb)
  clear hb hr
  have hr := X.r2
  go_wp2_with fail
  refine (rof_any s ⟨A, c⟩ ds B cd _ (HS.out.below X.1) (HD.out.below X.1) hv).mono ?_
  rintro e wz ⟨hb, A2', c2', rfl, hl⟩
  replace X := X.to hb
  replace HL := hide (HL.out.below hb)
  clear hb hr
  have hr := X.r2
  have HL2 := hide hl
  clear hl
  go_wp2_with fail
  refine (equalI_any (ofL s ds) (ofL s ds) A' A2' c' c2' _ HL.out HL2.out).mono ?_
  rintro e wz ⟨rfl, hb⟩
  rw [eqB_self]
  replace X := X.to hb
  clear hb hr
  have hr := X.r2
  go_wp2_with fail
  refine (rfvalid_any T ⟨A1, A2, A3, k1, k2, k3⟩ _ (HT.out.below X.1)).mono ?_
  rintro e wz ⟨rfl, hb⟩
  rw [hw]
  replace X := X.to hb
  clear hb hr
  have hr := X.r2
  go_wp2_with fail
  refine (rfwithin_any T.ps A2 k2 y _ (HT.out.below X.1).2.1 (of_vT hw).p1).mono ?_
  rintro e wz ⟨rfl, rfl⟩
  rw [hy]
  go_wp2
  go_ret
  exact ⟨rfl, X.1⟩
set_option maxHeartbeats 4000000 in
theorem rec_ai (T : Tab) (a : TabA) (s : Ser) (q : SerA) (ds : List Int) (B : Option Addr) (cd : Nat) (y : Int) (w : World) (ht : TabSl w T a) (hs : SerSl w s q) (hd : IntSl w B ds) (t1 : bigT T = false) (g1 : s.ds.length ≤ 60) (g2 : ds.length ≤ 20) (hv : vS s = true) (hw : vT T = true) (hy : inL T.ps y = true) :
    Calls Try.prog 7 #[T.val a, s.val q, .slice B ds.length cd, .int .i64 y] w fun e w' => e = .returned (.bool true) ∧ Below w.heap.size w w' := by
  obtain ⟨A1, A2, A3, k1, k2, k3⟩ := a
  obtain ⟨A, c⟩ := q
  have X := ((Own.start w).alloc #[.slice A1 T.ds.length k1, .slice A2 T.ps.length k2, .slice A3 T.rows.length k3] 25).alloc #[.int .i64 s.fr, .int .i64 s.st, .slice A s.ds.length c] 41
  simp only [World.size_alloc] at X
  have HT := hide ht
  have HS := hide hs
  have HD := hide hd
  have n0 : (0 : Int) ≤ (ds.length : Int) := by omega
  have n1 : (0 : Int) ≤ (s.ds.length : Int) := by omega
  clear ht hs hd
  have g1z : ¬ (60 : Int) < (s.ds.length : Int) := by omega
  have g2z : ¬ (20 : Int) < (ds.length : Int) := by omega
  have g3z : (ds.length : Int) ≤ 100 := by omega
  have g4z : ¬ (105 : Int) < (ds.length : Int) := by omega
  have RC := hide (fun W (h1 : TabSl W T ⟨A1, A2, A3, k1, k2, k3⟩) (h2 : SerSl W s ⟨A, c⟩) => rcovers_any T ⟨A1, A2, A3, k1, k2, k3⟩ s ⟨A, c⟩ y W h1 h2 hw hv hy)
  have hr := X.r2
  go_enter Try.func7, Try.ntmps7
  go_wp2_with fail
  refine (awake_any _).mono ?_
  rintro e wz ⟨rfl, hb⟩
  replace X := X.to hb
  clear hb hr
  have hr := X.r2
  go_wp2_with fail
  refine (large_any T ⟨A1, A2, A3, k1, k2, k3⟩ _ (HT.out.below X.1)).mono ?_
  rintro e wz ⟨rfl, hb⟩
  rw [t1]
  replace X := X.to hb
  clear hb hr
  have hr := X.r2
  go_wp2_with fail
  refine (of_any s ⟨A, c⟩ ds B cd _ (HS.out.below X.1) (HD.out.below X.1) hv).mono ?_
  rintro e wz ⟨hb, A', c', rfl, hl⟩
  have HL := hide hl
  clear hl
  replace X := X.to hb
  clear hb hr
  have hr := X.r2
  go_wp2_with fail
  refine (covers_in T ⟨A1, A2, A3, k1, k2, k3⟩ s ⟨A, c⟩ y _ (HT.out.below X.1) (HS.out.below X.1) hw hv hy).mono ?_
  rintro e wz ⟨rfl, hb⟩
  generalize covI T s y = I at *
  replace X := X.to hb
  replace HL := hide (HL.out.below hb)
  clear hb hr
  have hr := X.r2
  go_wp2_with fail
  refine (rfvalid17_any s ⟨A, c⟩ _ (HS.out.below X.1)).mono ?_
  rintro e wz ⟨rfl, hb⟩
  rw [hv]
  replace X := X.to hb
  replace HL := hide (HL.out.below hb)
  clear hb hr
  have hr := X.r2
  go_wp2_with fail
  refine (rof_any s ⟨A, c⟩ ds B cd _ (HS.out.below X.1) (HD.out.below X.1) hv).mono ?_
  rintro e wz ⟨hb, A2', c2', rfl, hl⟩
  replace X := X.to hb
  replace HL := hide (HL.out.below hb)
  clear hb hr
  have hr := X.r2
  have HL2 := hide hl
  clear hl
  go_wp2_with fail
  refine (equalI_any (ofL s ds) (ofL s ds) A' A2' c' c2' _ HL.out HL2.out).mono ?_
  rintro e wz ⟨rfl, hb⟩
  rw [eqB_self]
  replace X := X.to hb
  clear hb hr
  have hr := X.r2
  go_wp2_with fail
  refine (rfvalid_any T ⟨A1, A2, A3, k1, k2, k3⟩ _ (HT.out.below X.1)).mono ?_
  rintro e wz ⟨rfl, hb⟩
  rw [hw]
  replace X := X.to hb
  clear hb hr
  have hr := X.r2
  go_wp2_with fail
  refine (rfwithin_any T.ps A2 k2 y _ (HT.out.below X.1).2.1 (of_vT hw).p1).mono ?_
  rintro e wz ⟨rfl, rfl⟩
  rw [hy]
  go_wp2_with fail
  refine (RC.out _ (HT.out.below X.1) (HS.out.below X.1)).mono ?_
  rintro e wz ⟨rfl, hb⟩
  replace X := X.to hb
  clear hb hr
  have hr := X.r2
  rcases Int.lt_or_le I 0 with z | z
  · go_wp2
    go_ret
    exact ⟨by simp, X.1⟩
  · have z' : ¬ I < 0 := by omega
    go_wp2
    go_ret
    exact ⟨by simp, X.1⟩
set_option maxHeartbeats 4000000 in
theorem rec_bs (T : Tab) (a : TabA) (s : Ser) (q : SerA) (ds : List Int) (B : Option Addr) (cd : Nat) (y : Int) (w : World) (ht : TabSl w T a) (hs : SerSl w s q) (hd : IntSl w B ds) (t1 : bigT T = false) (g1 : s.ds.length ≤ 60) (g2 : 100 < ds.length) (g3 : ds.length ≤ 105) (hv : vS s = false) :
    Calls Try.prog 7 #[T.val a, s.val q, .slice B ds.length cd, .int .i64 y] w fun e w' => e = .returned (.bool true) ∧ Below w.heap.size w w' := by
  obtain ⟨A1, A2, A3, k1, k2, k3⟩ := a
  obtain ⟨A, c⟩ := q
  have X := ((Own.start w).alloc #[.slice A1 T.ds.length k1, .slice A2 T.ps.length k2, .slice A3 T.rows.length k3] 25).alloc #[.int .i64 s.fr, .int .i64 s.st, .slice A s.ds.length c] 41
  simp only [World.size_alloc] at X
  have HT := hide ht
  have HS := hide hs
  have HD := hide hd
  have n0 : (0 : Int) ≤ (ds.length : Int) := by omega
  have n1 : (0 : Int) ≤ (s.ds.length : Int) := by omega
  clear ht hs hd
  have g1z : ¬ (60 : Int) < (s.ds.length : Int) := by omega
  have g2z : (20 : Int) < (ds.length : Int) := by omega
  have g3z : ¬ (ds.length : Int) ≤ 100 := by omega
  have g4z : ¬ (105 : Int) < (ds.length : Int) := by omega
  have hr := X.r2
  go_enter Try.func7, Try.ntmps7
  go_wp2_with fail
  refine (awake_any _).mono ?_
  rintro e wz ⟨rfl, hb⟩
  replace X := X.to hb
  clear hb hr
  have hr := X.r2
  go_wp2_with fail
  refine (large_any T ⟨A1, A2, A3, k1, k2, k3⟩ _ (HT.out.below X.1)).mono ?_
  rintro e wz ⟨rfl, hb⟩
  rw [t1]
  replace X := X.to hb
  clear hb hr
  have hr := X.r2
  go_wp2_with fail
  refine (of_bad s ⟨A, c⟩ ds B cd _ (HS.out.below X.1) hv).mono ?_
  rintro e wz ⟨hb, A', c', rfl, hl⟩
  have HL := hide hl
  clear hl
  replace X := X.to hb
  clear hb hr
  have hr := X.r2
  go_wp2_with fail
  refine (covers_bad T ⟨A1, A2, A3, k1, k2, k3⟩ s ⟨A, c⟩ y _ (HT.out.below X.1) (HS.out.below X.1) (.inr hv)).mono ?_
  rintro e wz ⟨rfl, hb⟩
  replace X := X.to hb
  replace HL := hide (HL.out.below hb)
  clear hb hr
  have hr := X.r2
  go_wp2_with fail
  refine (rfvalid17_any s ⟨A, c⟩ _ (HS.out.below X.1)).mono ?_
  rintro e wz ⟨rfl, hb⟩
  rw [hv]
  replace X := X.to hb
  replace HL := hide (HL.out.below hb)
  clear hb hr
  have hr := X.r2
  go_wp2
  go_ret
  exact ⟨rfl, X.1⟩
set_option maxHeartbeats 4000000 in
theorem rec_bt (T : Tab) (a : TabA) (s : Ser) (q : SerA) (ds : List Int) (B : Option Addr) (cd : Nat) (y : Int) (w : World) (ht : TabSl w T a) (hs : SerSl w s q) (hd : IntSl w B ds) (t1 : bigT T = false) (g1 : s.ds.length ≤ 60) (g2 : 100 < ds.length) (g3 : ds.length ≤ 105) (hv : vS s = true) (hw : vT T = false) :
    Calls Try.prog 7 #[T.val a, s.val q, .slice B ds.length cd, .int .i64 y] w fun e w' => e = .returned (.bool true) ∧ Below w.heap.size w w' := by
  obtain ⟨A1, A2, A3, k1, k2, k3⟩ := a
  obtain ⟨A, c⟩ := q
  have X := ((Own.start w).alloc #[.slice A1 T.ds.length k1, .slice A2 T.ps.length k2, .slice A3 T.rows.length k3] 25).alloc #[.int .i64 s.fr, .int .i64 s.st, .slice A s.ds.length c] 41
  simp only [World.size_alloc] at X
  have HT := hide ht
  have HS := hide hs
  have HD := hide hd
  have n0 : (0 : Int) ≤ (ds.length : Int) := by omega
  have n1 : (0 : Int) ≤ (s.ds.length : Int) := by omega
  clear ht hs hd
  have g1z : ¬ (60 : Int) < (s.ds.length : Int) := by omega
  have g2z : (20 : Int) < (ds.length : Int) := by omega
  have g3z : ¬ (ds.length : Int) ≤ 100 := by omega
  have g4z : ¬ (105 : Int) < (ds.length : Int) := by omega
  have hr := X.r2
  go_enter Try.func7, Try.ntmps7
  go_wp2_with fail
  refine (awake_any _).mono ?_
  rintro e wz ⟨rfl, hb⟩
  replace X := X.to hb
  clear hb hr
  have hr := X.r2
  go_wp2_with fail
  refine (large_any T ⟨A1, A2, A3, k1, k2, k3⟩ _ (HT.out.below X.1)).mono ?_
  rintro e wz ⟨rfl, hb⟩
  rw [t1]
  replace X := X.to hb
  clear hb hr
  have hr := X.r2
  go_wp2_with fail
  refine (of_any s ⟨A, c⟩ ds B cd _ (HS.out.below X.1) (HD.out.below X.1) hv).mono ?_
  rintro e wz ⟨hb, A', c', rfl, hl⟩
  have HL := hide hl
  clear hl
  replace X := X.to hb
  clear hb hr
  have hr := X.r2
  go_wp2_with fail
  refine (covers_bad T ⟨A1, A2, A3, k1, k2, k3⟩ s ⟨A, c⟩ y _ (HT.out.below X.1) (HS.out.below X.1) (.inl hw)).mono ?_
  rintro e wz ⟨rfl, hb⟩
  replace X := X.to hb
  replace HL := hide (HL.out.below hb)
  clear hb hr
  have hr := X.r2
  go_wp2_with fail
  refine (rfvalid17_any s ⟨A, c⟩ _ (HS.out.below X.1)).mono ?_
  rintro e wz ⟨rfl, hb⟩
  rw [hv]
  replace X := X.to hb
  replace HL := hide (HL.out.below hb)
  clear hb hr
  have hr := X.r2
  go_wp2_with fail
  refine (rof_any s ⟨A, c⟩ ds B cd _ (HS.out.below X.1) (HD.out.below X.1) hv).mono ?_
  rintro e wz ⟨hb, A2', c2', rfl, hl⟩
  replace X := X.to hb
  replace HL := hide (HL.out.below hb)
  clear hb hr
  have hr := X.r2
  have HL2 := hide hl
  clear hl
  go_wp2_with fail
  refine (equalI_any (ofL s ds) (ofL s ds) A' A2' c' c2' _ HL.out HL2.out).mono ?_
  rintro e wz ⟨rfl, hb⟩
  rw [eqB_self]
  replace X := X.to hb
  clear hb hr
  have hr := X.r2
  go_wp2_with fail
  refine (rfvalid_any T ⟨A1, A2, A3, k1, k2, k3⟩ _ (HT.out.below X.1)).mono ?_
  rintro e wz ⟨rfl, hb⟩
  rw [hw]
  replace X := X.to hb
  clear hb hr
  have hr := X.r2
  go_wp2
  go_ret
  exact ⟨rfl, X.1⟩
set_option maxHeartbeats 4000000 in
theorem rec_bo (T : Tab) (a : TabA) (s : Ser) (q : SerA) (ds : List Int) (B : Option Addr) (cd : Nat) (y : Int) (w : World) (ht : TabSl w T a) (hs : SerSl w s q) (hd : IntSl w B ds) (t1 : bigT T = false) (g1 : s.ds.length ≤ 60) (g2 : 100 < ds.length) (g3 : ds.length ≤ 105) (hv : vS s = true) (hw : vT T = true) (hy : inL T.ps y = false) :
    Calls Try.prog 7 #[T.val a, s.val q, .slice B ds.length cd, .int .i64 y] w fun e w' => e = .returned (.bool true) ∧ Below w.heap.size w w' := by
  obtain ⟨A1, A2, A3, k1, k2, k3⟩ := a
  obtain ⟨A, c⟩ := q
  have X := ((Own.start w).alloc #[.slice A1 T.ds.length k1, .slice A2 T.ps.length k2, .slice A3 T.rows.length k3] 25).alloc #[.int .i64 s.fr, .int .i64 s.st, .slice A s.ds.length c] 41
  simp only [World.size_alloc] at X
  have HT := hide ht
  have HS := hide hs
  have HD := hide hd
  have n0 : (0 : Int) ≤ (ds.length : Int) := by omega
  have n1 : (0 : Int) ≤ (s.ds.length : Int) := by omega
  clear ht hs hd
  have g1z : ¬ (60 : Int) < (s.ds.length : Int) := by omega
  have g2z : (20 : Int) < (ds.length : Int) := by omega
  have g3z : ¬ (ds.length : Int) ≤ 100 := by omega
  have g4z : ¬ (105 : Int) < (ds.length : Int) := by omega
  have hr := X.r2
  go_enter Try.func7, Try.ntmps7
  go_wp2_with fail
  refine (awake_any _).mono ?_
  rintro e wz ⟨rfl, hb⟩
  replace X := X.to hb
  clear hb hr
  have hr := X.r2
  go_wp2_with fail
  refine (large_any T ⟨A1, A2, A3, k1, k2, k3⟩ _ (HT.out.below X.1)).mono ?_
  rintro e wz ⟨rfl, hb⟩
  rw [t1]
  replace X := X.to hb
  clear hb hr
  have hr := X.r2
  go_wp2_with fail
  refine (of_any s ⟨A, c⟩ ds B cd _ (HS.out.below X.1) (HD.out.below X.1) hv).mono ?_
  rintro e wz ⟨hb, A', c', rfl, hl⟩
  have HL := hide hl
  clear hl
  replace X := X.to hb
  clear hb hr
  have hr := X.r2
  go_wp2_with fail
  refine (covers_out T ⟨A1, A2, A3, k1, k2, k3⟩ s ⟨A, c⟩ y _ (HT.out.below X.1) (HS.out.below X.1) hw hv hy).mono ?_
  rintro e wz ⟨rfl, hb⟩
  replace X := X.to hb
  replace HL := hide (HL.out.below hb)
  clear hb hr
  have hr := X.r2
  go_wp2_with fail
  refine (rfvalid17_any s ⟨A, c⟩ _ (HS.out.below X.1)).mono ?_
  rintro e wz ⟨rfl, hb⟩
  rw [hv]
  replace X := X.to hb
  replace HL := hide (HL.out.below hb)
  clear hb hr
  have hr := X.r2
  go_wp2_with fail
  refine (rof_any s ⟨A, c⟩ ds B cd _ (HS.out.below X.1) (HD.out.below X.1) hv).mono ?_
  rintro e wz ⟨hb, A2', c2', rfl, hl⟩
  replace X := X.to hb
  replace HL := hide (HL.out.below hb)
  clear hb hr
  have hr := X.r2
  have HL2 := hide hl
  clear hl
  go_wp2_with fail
  refine (equalI_any (ofL s ds) (ofL s ds) A' A2' c' c2' _ HL.out HL2.out).mono ?_
  rintro e wz ⟨rfl, hb⟩
  rw [eqB_self]
  replace X := X.to hb
  clear hb hr
  have hr := X.r2
  go_wp2_with fail
  refine (rfvalid_any T ⟨A1, A2, A3, k1, k2, k3⟩ _ (HT.out.below X.1)).mono ?_
  rintro e wz ⟨rfl, hb⟩
  rw [hw]
  replace X := X.to hb
  clear hb hr
  have hr := X.r2
  go_wp2_with fail
  refine (rfwithin_any T.ps A2 k2 y _ (HT.out.below X.1).2.1 (of_vT hw).p1).mono ?_
  rintro e wz ⟨rfl, rfl⟩
  rw [hy]
  go_wp2
  go_ret
  exact ⟨rfl, X.1⟩
set_option maxHeartbeats 4000000 in
theorem rec_bi (T : Tab) (a : TabA) (s : Ser) (q : SerA) (ds : List Int) (B : Option Addr) (cd : Nat) (y : Int) (w : World) (ht : TabSl w T a) (hs : SerSl w s q) (hd : IntSl w B ds) (t1 : bigT T = false) (g1 : s.ds.length ≤ 60) (g2 : 100 < ds.length) (g3 : ds.length ≤ 105) (hv : vS s = true) (hw : vT T = true) (hy : inL T.ps y = true) :
    Calls Try.prog 7 #[T.val a, s.val q, .slice B ds.length cd, .int .i64 y] w fun e w' => e = .returned (.bool true) ∧ Below w.heap.size w w' := by
  obtain ⟨A1, A2, A3, k1, k2, k3⟩ := a
  obtain ⟨A, c⟩ := q
  have X := ((Own.start w).alloc #[.slice A1 T.ds.length k1, .slice A2 T.ps.length k2, .slice A3 T.rows.length k3] 25).alloc #[.int .i64 s.fr, .int .i64 s.st, .slice A s.ds.length c] 41
  simp only [World.size_alloc] at X
  have HT := hide ht
  have HS := hide hs
  have HD := hide hd
  have n0 : (0 : Int) ≤ (ds.length : Int) := by omega
  have n1 : (0 : Int) ≤ (s.ds.length : Int) := by omega
  clear ht hs hd
  have g1z : ¬ (60 : Int) < (s.ds.length : Int) := by omega
  have g2z : (20 : Int) < (ds.length : Int) := by omega
  have g3z : ¬ (ds.length : Int) ≤ 100 := by omega
  have g4z : ¬ (105 : Int) < (ds.length : Int) := by omega
  have RC := hide (fun W (h1 : TabSl W T ⟨A1, A2, A3, k1, k2, k3⟩) (h2 : SerSl W s ⟨A, c⟩) => rcovers_any T ⟨A1, A2, A3, k1, k2, k3⟩ s ⟨A, c⟩ y W h1 h2 hw hv hy)
  have hr := X.r2
  go_enter Try.func7, Try.ntmps7
  go_wp2_with fail
  refine (awake_any _).mono ?_
  rintro e wz ⟨rfl, hb⟩
  replace X := X.to hb
  clear hb hr
  have hr := X.r2
  go_wp2_with fail
  refine (large_any T ⟨A1, A2, A3, k1, k2, k3⟩ _ (HT.out.below X.1)).mono ?_
  rintro e wz ⟨rfl, hb⟩
  rw [t1]
  replace X := X.to hb
  clear hb hr
  have hr := X.r2
  go_wp2_with fail
  refine (of_any s ⟨A, c⟩ ds B cd _ (HS.out.below X.1) (HD.out.below X.1) hv).mono ?_
  rintro e wz ⟨hb, A', c', rfl, hl⟩
  have HL := hide hl
  clear hl
  replace X := X.to hb
  clear hb hr
  have hr := X.r2
  go_wp2_with fail
  refine (covers_in T ⟨A1, A2, A3, k1, k2, k3⟩ s ⟨A, c⟩ y _ (HT.out.below X.1) (HS.out.below X.1) hw hv hy).mono ?_
  rintro e wz ⟨rfl, hb⟩
  generalize covI T s y = I at *
  replace X := X.to hb
  replace HL := hide (HL.out.below hb)
  clear hb hr
  have hr := X.r2
  go_wp2_with fail
  refine (rfvalid17_any s ⟨A, c⟩ _ (HS.out.below X.1)).mono ?_
  rintro e wz ⟨rfl, hb⟩
  rw [hv]
  replace X := X.to hb
  replace HL := hide (HL.out.below hb)
  clear hb hr
  have hr := X.r2
  go_wp2_with fail
  refine (rof_any s ⟨A, c⟩ ds B cd _ (HS.out.below X.1) (HD.out.below X.1) hv).mono ?_
  rintro e wz ⟨hb, A2', c2', rfl, hl⟩
  replace X := X.to hb
  replace HL := hide (HL.out.below hb)
  clear hb hr
  have hr := X.r2
  have HL2 := hide hl
  clear hl
  go_wp2_with fail
  refine (equalI_any (ofL s ds) (ofL s ds) A' A2' c' c2' _ HL.out HL2.out).mono ?_
  rintro e wz ⟨rfl, hb⟩
  rw [eqB_self]
  replace X := X.to hb
  clear hb hr
  have hr := X.r2
  go_wp2_with fail
  refine (rfvalid_any T ⟨A1, A2, A3, k1, k2, k3⟩ _ (HT.out.below X.1)).mono ?_
  rintro e wz ⟨rfl, hb⟩
  rw [hw]
  replace X := X.to hb
  clear hb hr
  have hr := X.r2
  go_wp2_with fail
  refine (rfwithin_any T.ps A2 k2 y _ (HT.out.below X.1).2.1 (of_vT hw).p1).mono ?_
  rintro e wz ⟨rfl, rfl⟩
  rw [hy]
  go_wp2_with fail
  refine (RC.out _ (HT.out.below X.1) (HS.out.below X.1)).mono ?_
  rintro e wz ⟨rfl, hb⟩
  replace X := X.to hb
  clear hb hr
  have hr := X.r2
  rcases Int.lt_or_le I 0 with z | z
  · go_wp2
    go_ret
    exact ⟨by simp, X.1⟩
  · have z' : ¬ I < 0 := by omega
    go_wp2
    go_ret
    exact ⟨by simp, X.1⟩
theorem rec_law (T : Tab) (a : TabA) (s : Ser) (q : SerA) (ds : List Int) (B : Option Addr) (cd : Nat) (y : Int) (w : World) (ht : TabSl w T a) (hs : SerSl w s q) (hd : IntSl w B ds) :
    Calls Try.prog 7 #[T.val a, s.val q, .slice B ds.length cd, .int .i64 y] w fun e w' => e = .returned (.bool true) ∧ Below w.heap.size w w' := by
  rcases Bool.eq_false_or_eq_true (bigT T) with t1 | t1
  · exact rec_big T a s q ds B cd y w ht hs hd t1
  by_cases g1 : s.ds.length ≤ 60
  rotate_left
  · exact rec_l60 T a s q ds B cd y w ht hs hd t1 (by omega)
  have g : ds.length ≤ 20 ∨ (20 < ds.length ∧ ds.length ≤ 100) ∨ (100 < ds.length ∧ ds.length ≤ 105) ∨ 105 < ds.length := by omega
  rcases g with g2 | ⟨g2, g3⟩ | ⟨g2, g3⟩ | g3
  · rcases Bool.eq_false_or_eq_true (vS s) with hv | hv
    · rcases Bool.eq_false_or_eq_true (vT T) with hw | hw
      · rcases Bool.eq_false_or_eq_true (inL T.ps y) with hy | hy
        · exact rec_ai T a s q ds B cd y w ht hs hd t1 g1 g2 hv hw hy
        · exact rec_ao T a s q ds B cd y w ht hs hd t1 g1 g2 hv hw hy
      · exact rec_at T a s q ds B cd y w ht hs hd t1 g1 g2 hv hw
    · exact rec_as T a s q ds B cd y w ht hs hd t1 g1 g2 hv
  · exact rec_n20 T a s q ds B cd y w ht hs hd t1 g1 g2 g3
  · rcases Bool.eq_false_or_eq_true (vS s) with hv | hv
    · rcases Bool.eq_false_or_eq_true (vT T) with hw | hw
      · rcases Bool.eq_false_or_eq_true (inL T.ps y) with hy | hy
        · exact rec_bi T a s q ds B cd y w ht hs hd t1 g1 g2 g3 hv hw hy
        · exact rec_bo T a s q ds B cd y w ht hs hd t1 g1 g2 g3 hv hw hy
      · exact rec_bt T a s q ds B cd y w ht hs hd t1 g1 g2 g3 hv hw
    · exact rec_bs T a s q ds B cd y w ht hs hd t1 g1 g2 g3 hv
  · exact rec_n105 T a s q ds B cd y w ht hs hd t1 g1 g3
end Go.Proofs.Ytjnifgheipmanaa
