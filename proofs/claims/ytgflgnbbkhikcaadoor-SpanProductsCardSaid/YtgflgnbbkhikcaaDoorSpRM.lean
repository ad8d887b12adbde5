/- The reference's Mul and Times of spans: what each returns; nothing that was there is turned (printed by gen_prm.py). -/
import Derived.Test.YtgflgnbbkhikcaaDoorSpRP
import Derived.Deep.DeepCutAuto
import Derived.Deep.RegionWith
namespace Go.Proofs.YtgflgnbbkhikcaaDoor
open Go.RowKit


set_option maxRecDepth 100000 in
set_option maxHeartbeats 8000000 in
theorem rmul0 (a b : Sp) {p q r s : Int} {M : Int × Int} (w : World)
    (T1 : Hid (∀ W, Calls Tryd.prog 43 #[.int .i64 a.lo, .int .i64 b.lo] W (NmPost p W)))
    (T2 : Hid (∀ W, Calls Tryd.prog 43 #[.int .i64 a.lo, .int .i64 b.hi] W (NmPost q W)))
    (T3 : Hid (∀ W, Calls Tryd.prog 43 #[.int .i64 a.hi, .int .i64 b.lo] W (NmPost r W)))
    (T4 : Hid (∀ W, Calls Tryd.prog 43 #[.int .i64 a.hi, .int .i64 b.hi] W (NmPost s W)))
    (BB : Hid (Sm p ∧ Sm q ∧ Sm r ∧ Sm s)) (EM : Hid (M = (mn (mn (mn p q) r) s, mx (mx (mx p q) r) s) ∧ M.1 ≤ M.2)) :
    Calls Tryd.prog 16 #[a.val, b.val] w (RetSE (resS M.1 M.2) (resE M.1 M.2) w) := by
  have X := (((Own.start w).alloc #[.int .i64 a.lo, .int .i64 a.hi] 23).alloc #[.int .i64 b.lo, .int .i64 b.hi] 23).alloc #[.int .i64 0, .int .i64 0] 23
  simp only [World.size_alloc] at X
  have hr := X.r3
  go_enter Tryd.func16, Tryd.ntmps16
  go_wp2_with fail
  refine (T1.out _).mono ?_
  rintro e w1 ⟨⟨ah, al, ag, rfl, hn⟩, hb⟩
  have NP := hide (And.intro hn hn)
  have BP := hide (And.intro BB.out.1 BB.out.1)
  have nn1 : w.heap.size + 2 < w1.heap.size := by have hz := hb.size; simp at hz; omega
  have m1 : ¬ w1.heap.size + 1 = w.heap.size := by omega
  have m2 : ¬ w1.heap.size + 1 = w.heap.size + 1 := by omega
  have m3 : ¬ w1.heap.size = w.heap.size := by omega
  replace X := ((X.to hb).alloc #[.int .u64 (ah : Int), .int .u64 (al : Int), .bool ag] 59).alloc #[.int .u64 (ah : Int), .int .u64 (al : Int), .bool ag, .int .u64 (ah : Int), .int .u64 (al : Int), .bool ag] 64
  simp only [World.size_alloc] at X
  clear hb hr hn
  have hr := X.r5

  have hpb : w.heap.size + 2 < w1.heap.size + 1 := by omega
  go_wp2_with fail
  go_cut [] (fun wx => ∃ (lh ll : Nat) (lg : Bool) (hh hl : Nat) (hg : Bool), Nm lh ll lg (mn (p) q) ∧ Nm hh hl hg (mx (p) q) ∧ Own w wx [(w1.heap.size + 1, 64, #[.int .u64 (lh : Int), .int .u64 (ll : Int), .bool lg, .int .u64 (hh : Int), .int .u64 (hl : Int), .bool hg]), (w1.heap.size, 59, #[.int .u64 (ah : Int), .int .u64 (al : Int), .bool ag]), (w.heap.size + 1 + 1, 23, #[.int .i64 0, .int .i64 0]), (w.heap.size + 1, 23, #[.int .i64 b.lo, .int .i64 b.hi]), (w.heap.size, 23, #[.int .i64 a.lo, .int .i64 a.hi])])
  case first =>
    have HX := hide X
    clear X
    have HB2 : Hid (w.heap.size ≤ w1.heap.size + 1) := hide (by omega)
    have HN2 : Hid (∀ x ∈ ([(w1.heap.size, 59, #[.int .u64 (ah : Int), .int .u64 (al : Int), .bool ag]), (w.heap.size + 1 + 1, 23, #[.int .i64 0, .int .i64 0]), (w.heap.size + 1, 23, #[.int .i64 b.lo, .int .i64 b.hi]), (w.heap.size, 23, #[.int .i64 a.lo, .int .i64 a.hi])] : List (Nat × TypeId × Array Value)), x.1 ≠ w1.heap.size + 1) := hide (by clear hr; simp; omega)
    go_region_with (first
      | (go_at_call 43; ((with_reducible refine (T2.out _).mono ?_); rintro e w2 ⟨⟨zh, zl, zg, rfl, hn⟩, hb⟩); have WI := hide (fun W => rwith_any NP.out.1 NP.out.2 hn BP.out.1 BP.out.2 BB.out.2.1 W); (first | (replace HX := hide (HX.out.to hb)) | (replace HX := hide (HX.out.drew.to hb))); replace hr := HX.out.r5; clear hb hn)
      | (go_at_call 46; ((with_reducible refine (WI.out _).mono ?_); rintro e w3 ⟨⟨lh, ll, lg, hh, hl, hg, rfl, hn1, hn2⟩, hb⟩); (first | (replace HX := hide (HX.out.to hb)) | (replace HX := hide (HX.out.drew.to hb))); replace hr := HX.out.r5; have NP2 := hide (And.intro hn1 hn2); clear hb hn1 hn2))
    all_goals
      go_wp2_with fail
      go_meet
      exact ⟨lh, ll, lg, hh, hl, hg, NP2.out.1, NP2.out.2, HX.out.set6 HB2.out HN2.out _ _ _ _ _ _⟩
  case rest =>
    clear X hr NP
    obtain ⟨lh, ll, lg, hh, hl, hg, hn1, hn2, X⟩ := hcut
    have NP := hide (And.intro hn1 hn2)
    have BP2 := hide (And.intro (sm_mn BP.out.1 BB.out.2.1) (sm_mx BP.out.2 BB.out.2.1))
    clear BP hn1 hn2
    have BP := BP2
    clear BP2
    have hr := X.r5
    go_wp2_with fail
    go_cut [] (fun wx => ∃ (lh ll : Nat) (lg : Bool) (hh hl : Nat) (hg : Bool), Nm lh ll lg (mn (mn (p) q) r) ∧ Nm hh hl hg (mx (mx (p) q) r) ∧ Own w wx [(w1.heap.size + 1, 64, #[.int .u64 (lh : Int), .int .u64 (ll : Int), .bool lg, .int .u64 (hh : Int), .int .u64 (hl : Int), .bool hg]), (w1.heap.size, 59, #[.int .u64 (ah : Int), .int .u64 (al : Int), .bool ag]), (w.heap.size + 1 + 1, 23, #[.int .i64 0, .int .i64 0]), (w.heap.size + 1, 23, #[.int .i64 b.lo, .int .i64 b.hi]), (w.heap.size, 23, #[.int .i64 a.lo, .int .i64 a.hi])])
    case first =>
      have HX := hide X
      clear X
      have HB2 : Hid (w.heap.size ≤ w1.heap.size + 1) := hide (by omega)
      have HN2 : Hid (∀ x ∈ ([(w1.heap.size, 59, #[.int .u64 (ah : Int), .int .u64 (al : Int), .bool ag]), (w.heap.size + 1 + 1, 23, #[.int .i64 0, .int .i64 0]), (w.heap.size + 1, 23, #[.int .i64 b.lo, .int .i64 b.hi]), (w.heap.size, 23, #[.int .i64 a.lo, .int .i64 a.hi])] : List (Nat × TypeId × Array Value)), x.1 ≠ w1.heap.size + 1) := hide (by clear hr; simp; omega)
      go_region_with (first
        | (go_at_call 43; ((with_reducible refine (T3.out _).mono ?_); rintro e w2 ⟨⟨zh, zl, zg, rfl, hn⟩, hb⟩); have WI := hide (fun W => rwith_any NP.out.1 NP.out.2 hn BP.out.1 BP.out.2 BB.out.2.2.1 W); (first | (replace HX := hide (HX.out.to hb)) | (replace HX := hide (HX.out.drew.to hb))); replace hr := HX.out.r5; clear hb hn)
        | (go_at_call 46; ((with_reducible refine (WI.out _).mono ?_); rintro e w3 ⟨⟨lh, ll, lg, hh, hl, hg, rfl, hn1, hn2⟩, hb⟩); (first | (replace HX := hide (HX.out.to hb)) | (replace HX := hide (HX.out.drew.to hb))); replace hr := HX.out.r5; have NP2 := hide (And.intro hn1 hn2); clear hb hn1 hn2))
      all_goals
        go_wp2_with fail
        go_meet
        exact ⟨lh, ll, lg, hh, hl, hg, NP2.out.1, NP2.out.2, HX.out.set6 HB2.out HN2.out _ _ _ _ _ _⟩
    case rest =>
      clear X hr NP
      obtain ⟨lh, ll, lg, hh, hl, hg, hn1, hn2, X⟩ := hcut
      have NP := hide (And.intro hn1 hn2)
      have BP2 := hide (And.intro (sm_mn BP.out.1 BB.out.2.2.1) (sm_mx BP.out.2 BB.out.2.2.1))
      clear BP hn1 hn2
      have BP := BP2
      clear BP2
      have hr := X.r5
      go_wp2_with fail
      go_cut [] (fun wx => ∃ (lh ll : Nat) (lg : Bool) (hh hl : Nat) (hg : Bool), Nm lh ll lg (mn (mn (mn (p) q) r) s) ∧ Nm hh hl hg (mx (mx (mx (p) q) r) s) ∧ Own w wx [(w1.heap.size + 1, 64, #[.int .u64 (lh : Int), .int .u64 (ll : Int), .bool lg, .int .u64 (hh : Int), .int .u64 (hl : Int), .bool hg]), (w1.heap.size, 59, #[.int .u64 (ah : Int), .int .u64 (al : Int), .bool ag]), (w.heap.size + 1 + 1, 23, #[.int .i64 0, .int .i64 0]), (w.heap.size + 1, 23, #[.int .i64 b.lo, .int .i64 b.hi]), (w.heap.size, 23, #[.int .i64 a.lo, .int .i64 a.hi])])
      case first =>
        have HX := hide X
        clear X
        have HB2 : Hid (w.heap.size ≤ w1.heap.size + 1) := hide (by omega)
        have HN2 : Hid (∀ x ∈ ([(w1.heap.size, 59, #[.int .u64 (ah : Int), .int .u64 (al : Int), .bool ag]), (w.heap.size + 1 + 1, 23, #[.int .i64 0, .int .i64 0]), (w.heap.size + 1, 23, #[.int .i64 b.lo, .int .i64 b.hi]), (w.heap.size, 23, #[.int .i64 a.lo, .int .i64 a.hi])] : List (Nat × TypeId × Array Value)), x.1 ≠ w1.heap.size + 1) := hide (by clear hr; simp; omega)
        go_region_with (first
          | (go_at_call 43; ((with_reducible refine (T4.out _).mono ?_); rintro e w2 ⟨⟨zh, zl, zg, rfl, hn⟩, hb⟩); have WI := hide (fun W => rwith_any NP.out.1 NP.out.2 hn BP.out.1 BP.out.2 BB.out.2.2.2 W); (first | (replace HX := hide (HX.out.to hb)) | (replace HX := hide (HX.out.drew.to hb))); replace hr := HX.out.r5; clear hb hn)
          | (go_at_call 46; ((with_reducible refine (WI.out _).mono ?_); rintro e w3 ⟨⟨lh, ll, lg, hh, hl, hg, rfl, hn1, hn2⟩, hb⟩); (first | (replace HX := hide (HX.out.to hb)) | (replace HX := hide (HX.out.drew.to hb))); replace hr := HX.out.r5; have NP2 := hide (And.intro hn1 hn2); clear hb hn1 hn2))
        all_goals
          go_wp2_with fail
          go_meet
          exact ⟨lh, ll, lg, hh, hl, hg, NP2.out.1, NP2.out.2, HX.out.set6 HB2.out HN2.out _ _ _ _ _ _⟩
      case rest =>
        clear X hr NP
        obtain ⟨lh, ll, lg, hh, hl, hg, hn1, hn2, X⟩ := hcut
        have NP := hide (And.intro hn1 hn2)
        have BP2 := hide (And.intro (sm_mn BP.out.1 BB.out.2.2.2) (sm_mx BP.out.2 BB.out.2.2.2))
        clear BP hn1 hn2
        have BP := BP2
        clear BP2
        have hr := X.r5
        have HM : Hid (mn (mn (mn (p) q) r) s ≤ mx (mx (mx (p) q) r) s) := hide (by have h := EM.out.2; rw [EM.out.1] at h; exact h)
        clear BP BB
        go_wp2_with fail
        refine (rwhole_any NP.out.1 NP.out.2 HM.out _).mono ?_
        rintro e w9 ⟨rfl, hb⟩
        replace X := X.to hb
        clear hb hr
        have hr := X.r5
        go_wp2
        exact bodyPost_ret (v := .tuple #[(resS (mn (mn (mn (p) q) r) s) (mx (mx (mx (p) q) r) s)).val, .int .i64 (resE (mn (mn (mn (p) q) r) s) (mx (mx (mx (p) q) r) s))]) (by simp [results, Tryd.results16, hr, go_sem]) rfl (RetSE.mk (by have HX := X.1; have hz := HX.size; go_grown) (by rw [EM.out.1]) (by rw [EM.out.1]))
end Go.Proofs.YtgflgnbbkhikcaaDoor
