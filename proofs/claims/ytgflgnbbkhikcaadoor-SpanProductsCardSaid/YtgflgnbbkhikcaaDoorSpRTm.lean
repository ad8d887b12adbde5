/- The reference's Times of spans: what it returns; nothing that was there is turned (printed by gen_prm.py). -/
import Derived.Test.YtgflgnbbkhikcaaDoorSpRP
import Derived.Deep.DeepCutAuto
import Derived.Deep.RegionWith
namespace Go.Proofs.YtgflgnbbkhikcaaDoor
open Go.RowKit


set_option maxRecDepth 100000 in
set_option maxHeartbeats 8000000 in
theorem rtim0 (a : Sp) {m d p q d1 u1 d2 u2 : Int} {M : Int × Int} (w : World)
    (D1 : Hid (∀ (h l h' l' : Nat) (s s' : Bool), Nm h l s p → Nm h' l' s' d → ∀ W, Calls Tryd.prog 44 #[Nd h l s, Nd h' l' s'] W (NmPost d1 W)))
    (U1 : Hid (∀ (h l h' l' : Nat) (s s' : Bool), Nm h l s p → Nm h' l' s' d → ∀ W, Calls Tryd.prog 45 #[Nd h l s, Nd h' l' s'] W (NmPost u1 W)))
    (D2 : Hid (∀ (h l h' l' : Nat) (s s' : Bool), Nm h l s q → Nm h' l' s' d → ∀ W, Calls Tryd.prog 44 #[Nd h l s, Nd h' l' s'] W (NmPost d2 W)))
    (U2 : Hid (∀ (h l h' l' : Nat) (s s' : Bool), Nm h l s q → Nm h' l' s' d → ∀ W, Calls Tryd.prog 45 #[Nd h l s, Nd h' l' s'] W (NmPost u2 W)))
    (T0 : Hid (∀ W, Calls Tryd.prog 42 #[.int .i64 d] W (NmPost d W)))
    (T1 : Hid (∀ W, Calls Tryd.prog 43 #[.int .i64 a.lo, .int .i64 m] W (NmPost p W)))
    (T2 : Hid (∀ W, Calls Tryd.prog 43 #[.int .i64 a.hi, .int .i64 m] W (NmPost q W)))
    (h0 : d ≠ 0)
    (BB : Hid (Sm d1 ∧ Sm u1 ∧ Sm d2 ∧ Sm u2)) (EM : Hid (M = (mn (mn d1 d2) u2, mx (mx u1 d2) u2) ∧ M.1 ≤ M.2)) :
    Calls Tryd.prog 15 #[a.val, .int .i64 m, .int .i64 d] w (RetSE (resS M.1 M.2) (resE M.1 M.2) w) := by
  have X := (((Own.start w).alloc #[.int .i64 a.lo, .int .i64 a.hi] 23).alloc #[.int .i64 0, .int .i64 0] 23)
  simp only [World.size_alloc] at X
  have z0 : (d == 0) = false := by simpa using h0
  clear h0
  have hr := X.r2
  go_enter Tryd.func15, Tryd.ntmps15
  go_wp2_with fail
  refine (T0.out _).mono ?_
  rintro e w1 ⟨⟨dh, dl, dg, rfl, hn⟩, hb⟩
  have ND := hide hn
  have nn1 : w.heap.size + 1 < w1.heap.size := by have hz := hb.size; simp at hz; omega
  replace X := ((X.to hb).alloc #[.int .u64 (dh : Int), .int .u64 (dl : Int), .bool dg] 59)
  clear hb hr hn
  have hr := X.r3
  go_wp2_with fail
  refine (T1.out _).mono ?_
  rintro e w2 ⟨⟨nh, nl, ng, rfl, hn⟩, hb⟩
  have NN := hide hn
  have nn2 : w1.heap.size < w2.heap.size := by have hz := hb.size; simp at hz; omega
  replace X := ((X.to hb).alloc #[.int .u64 (nh : Int), .int .u64 (nl : Int), .bool ng] 59)
  clear hb hr hn
  have hr := X.r4
  go_wp2_with fail
  go_cut [10] (fun v10 wx => ∃ (pb : Nat) (lh ll : Nat) (lg : Bool) (hh hl : Nat) (hg : Bool), v10 = .pointer (some ⟨pb, 0, none⟩) ∧ w2.heap.size < pb ∧ Nm lh ll lg d1 ∧ Nm hh hl hg u1 ∧ Own w wx [(pb, 64, #[.int .u64 (lh : Int), .int .u64 (ll : Int), .bool lg, .int .u64 (hh : Int), .int .u64 (hl : Int), .bool hg]), (w2.heap.size, 59, #[.int .u64 (nh : Int), .int .u64 (nl : Int), .bool ng]), (w1.heap.size, 59, #[.int .u64 (dh : Int), .int .u64 (dl : Int), .bool dg]), (w.heap.size + 1, 23, #[.int .i64 0, .int .i64 0]), (w.heap.size, 23, #[.int .i64 a.lo, .int .i64 a.hi])])
  case first =>
    have HX := hide X
    clear X
    have n0 : ¬ w2.heap.size + 1 = w1.heap.size ∧ ¬ w2.heap.size = w1.heap.size ∧ ¬ w1.heap.size = w2.heap.size := by omega
    have P1 := hide (fun W => D1.out _ _ _ _ _ _ NN.out ND.out W)
    have P2 := hide (fun W => U1.out _ _ _ _ _ _ NN.out ND.out W)
    go_region_held3 (fun w' => w'.cell? ⟨w2.heap.size, 0, none⟩ = some (.int .u64 (nh : Int)) ∧ w'.cell? ⟨w2.heap.size, 1, none⟩ = some (.int .u64 (nl : Int)) ∧ w'.cell? ⟨w2.heap.size, 2, none⟩ = some (.bool ng) ∧
      w'.cell? ⟨w1.heap.size, 0, none⟩ = some (.int .u64 (dh : Int)) ∧ w'.cell? ⟨w1.heap.size, 1, none⟩ = some (.int .u64 (dl : Int)) ∧ w'.cell? ⟨w1.heap.size, 2, none⟩ = some (.bool dg)) (go_keep) (first
      | (go_at_call 44; ((with_reducible refine (P1.out _).mono ?_); rintro e w3 ⟨⟨lh, ll, lg, rfl, hn⟩, hb⟩); have nn3 : w2.heap.size < w3.heap.size := (by have hz := hb.size; (try simp at hz); omega); have mm3 : ¬ w3.heap.size = w2.heap.size ∧ ¬ w3.heap.size = w1.heap.size := (by omega); have NL := hide hn; (first | (replace HX := hide (HX.out.to hb)) | (replace HX := hide (HX.out.drew.to hb)) | (replace HX := hide ((HX.out.alloc _ _).to hb)) | (replace HX := hide ((HX.out.drew.alloc _ _).to hb))); (try simp only [World.size_alloc, drewS] at HX); have hk := keeps hb; clear hb hn)
      | (go_at_call 45; ((with_reducible refine (P2.out _).mono ?_); rintro e w4 ⟨⟨hh, hl, hg, rfl, hn⟩, hb⟩); have nn4 : w2.heap.size < w4.heap.size := (by have hz := hb.size; (try simp at hz); omega); have mm4 : ¬ w4.heap.size = w2.heap.size ∧ ¬ w4.heap.size = w1.heap.size := (by omega); have NH := hide hn; (first | (replace HX := hide (HX.out.to hb)) | (replace HX := hide (HX.out.drew.to hb)) | (replace HX := hide ((HX.out.alloc _ _).to hb)) | (replace HX := hide ((HX.out.drew.alloc _ _).to hb))); (try simp only [World.size_alloc, drewS] at HX); have hk2 := keeps hb; have hka := keepsA w4; (first | have hr5 := HX.out.r5 | have hr5 := HX.out.r4); clear hb hn))
    all_goals
      go_wp2_with fail
      clear hr hk hk2 hka hr5
      go_meet
      first
        | (with_reducible exact ⟨w4.heap.size, lh, ll, lg, hh, hl, hg, rfl, (by omega), NL.out, NH.out, HX.out.alloc _ _⟩)
        | (with_reducible exact ⟨w3.heap.size, lh, ll, lg, hh, hl, hg, rfl, (by omega), NL.out, NH.out, HX.out.set6 (by omega) (by simp; omega) _ _ _ _ _ _⟩)
        | (with_reducible exact ⟨w2.heap.size + 1, lh, ll, lg, hh, hl, hg, rfl, (by omega), NL.out, NH.out, HX.out.set6 (by omega) (by simp; omega) _ _ _ _ _ _⟩)
  case rest =>
    clear X hr
    obtain ⟨pb, lh, ll, lg, hh, hl, hg, rfl, hpb, hn1, hn2, X⟩ := hcut
    have NP := hide (And.intro hn1 hn2)
    have BP := hide (And.intro BB.out.1 BB.out.2.1)
    clear hn1 hn2
    have hr := X.r5
    have Y : Own w wc [(w2.heap.size, 59, #[.int .u64 (nh : Int), .int .u64 (nl : Int), .bool ng]), (pb, 64, #[.int .u64 (lh : Int), .int .u64 (ll : Int), .bool lg, .int .u64 (hh : Int), .int .u64 (hl : Int), .bool hg]), (w1.heap.size, 59, #[.int .u64 (dh : Int), .int .u64 (dl : Int), .bool dg]), (w.heap.size + 1, 23, #[.int .i64 0, .int .i64 0]), (w.heap.size, 23, #[.int .i64 a.lo, .int .i64 a.hi])] := ⟨X.1, fun x hx => X.2 x (by simp only [List.mem_cons, List.not_mem_nil, or_false] at hx ⊢; rcases hx with h | h | h | h | h <;> simp [h])⟩
    clear X
    go_wp2_with fail
    refine (T2.out _).mono ?_
    rintro e w5 ⟨⟨qh, ql, qg, rfl, hn⟩, hb⟩
    have NQ := hide hn
    have Z := (Y.to hb).set3 (by omega) (by clear hr; simp; omega) (.int .u64 (qh : Int)) (.int .u64 (ql : Int)) (.bool qg)
    have X : Own w (((w5.setCell ⟨w2.heap.size, 0, none⟩ (.int .u64 (qh : Int))).setCell ⟨w2.heap.size, 1, none⟩ (.int .u64 (ql : Int))).setCell ⟨w2.heap.size, 2, none⟩ (.bool qg)) [(pb, 64, #[.int .u64 (lh : Int), .int .u64 (ll : Int), .bool lg, .int .u64 (hh : Int), .int .u64 (hl : Int), .bool hg]), (w2.heap.size, 59, #[.int .u64 (qh : Int), .int .u64 (ql : Int), .bool qg]), (w1.heap.size, 59, #[.int .u64 (dh : Int), .int .u64 (dl : Int), .bool dg]), (w.heap.size + 1, 23, #[.int .i64 0, .int .i64 0]), (w.heap.size, 23, #[.int .i64 a.lo, .int .i64 a.hi])] := ⟨Z.1, fun x hx => Z.2 x (by simp only [List.mem_cons, List.not_mem_nil, or_false] at hx ⊢; rcases hx with h | h | h | h | h <;> simp [h])⟩
    clear hr
    have hr := (Y.to hb).r5
    clear Y Z hb hn NN
    go_wp2_with fail
    clear hr
    have hr := X.r5
    have n0 : ¬ w2.heap.size = w1.heap.size ∧ ¬ w1.heap.size = w2.heap.size ∧ ¬ pb = w2.heap.size ∧ ¬ pb = w1.heap.size ∧ ¬ w2.heap.size = pb ∧ ¬ w1.heap.size = pb := by clear hr; omega
    have P1 := hide (fun W => D2.out _ _ _ _ _ _ NQ.out ND.out W)
    have P2 := hide (fun W => U2.out _ _ _ _ _ _ NQ.out ND.out W)
    clear D1 U1 D2 U2 T0 T1 T2
    go_wp2_with fail
    go_cut [] (fun wx => ∃ (lh ll : Nat) (lg : Bool) (hh hl : Nat) (hg : Bool), Nm lh ll lg (mn (d1) d2) ∧ Nm hh hl hg (mx (u1) d2) ∧ Own w wx [(pb, 64, #[.int .u64 (lh : Int), .int .u64 (ll : Int), .bool lg, .int .u64 (hh : Int), .int .u64 (hl : Int), .bool hg]), (w2.heap.size, 59, #[.int .u64 (qh : Int), .int .u64 (ql : Int), .bool qg]), (w1.heap.size, 59, #[.int .u64 (dh : Int), .int .u64 (dl : Int), .bool dg]), (w.heap.size + 1, 23, #[.int .i64 0, .int .i64 0]), (w.heap.size, 23, #[.int .i64 a.lo, .int .i64 a.hi])])
    case first =>
      have HX := hide X
      clear X
      have HB2 : Hid (w.heap.size ≤ pb) := hide (by omega)
      have HN2 : Hid (∀ x ∈ ([(w2.heap.size, 59, #[.int .u64 (qh : Int), .int .u64 (ql : Int), .bool qg]), (w1.heap.size, 59, #[.int .u64 (dh : Int), .int .u64 (dl : Int), .bool dg]), (w.heap.size + 1, 23, #[.int .i64 0, .int .i64 0]), (w.heap.size, 23, #[.int .i64 a.lo, .int .i64 a.hi])] : List (Nat × TypeId × Array Value)), x.1 ≠ pb) := hide (by clear hr; simp; omega)
      go_region_with (first
        | (go_at_call 44; ((with_reducible refine (P1.out _).mono ?_); rintro e w7 ⟨⟨zh, zl, zg, rfl, hn⟩, hb⟩); have WI := hide (fun W => rwith_any NP.out.1 NP.out.2 hn BP.out.1 BP.out.2 BB.out.2.2.1 W); (first | (replace HX := hide (HX.out.to hb)) | (replace HX := hide (HX.out.drew.to hb))); replace hr := HX.out.r5; clear hb hn)
        | (go_at_call 46; ((with_reducible refine (WI.out _).mono ?_); rintro e w3 ⟨⟨lh, ll, lg, hh, hl, hg, rfl, hn1, hn2⟩, hb⟩); (first | (replace HX := hide (HX.out.to hb)) | (replace HX := hide (HX.out.drew.to hb))); replace hr := HX.out.r5; have NP2 := hide (And.intro hn1 hn2); clear hb hn1 hn2))
      all_goals
        go_wp2_with fail
        go_meet
        exact ⟨lh, ll, lg, hh, hl, hg, NP2.out.1, NP2.out.2, HX.out.set6 HB2.out HN2.out _ _ _ _ _ _⟩
    case rest =>
      clear X hr NP
      obtain ⟨lh, ll, lg, hh, hl, hg, hn1, hn2, X⟩ := hcut
      have NP := hide (And.intro hn1 hn2)
      have BP2 := hide (And.intro (sm_mn BP.out.1 BB.out.2.2.1) (sm_mx BP.out.2 BB.out.2.2.1))
      clear BP hn1 hn2
      have BP := BP2
      clear BP2
      have hr := X.r5
      go_wp2_with fail
      go_cut [] (fun wx => ∃ (lh ll : Nat) (lg : Bool) (hh hl : Nat) (hg : Bool), Nm lh ll lg (mn (mn d1 d2) u2) ∧ Nm hh hl hg (mx (mx u1 d2) u2) ∧ Own w wx [(pb, 64, #[.int .u64 (lh : Int), .int .u64 (ll : Int), .bool lg, .int .u64 (hh : Int), .int .u64 (hl : Int), .bool hg]), (w2.heap.size, 59, #[.int .u64 (qh : Int), .int .u64 (ql : Int), .bool qg]), (w1.heap.size, 59, #[.int .u64 (dh : Int), .int .u64 (dl : Int), .bool dg]), (w.heap.size + 1, 23, #[.int .i64 0, .int .i64 0]), (w.heap.size, 23, #[.int .i64 a.lo, .int .i64 a.hi])])
      case first =>
        have HX := hide X
        clear X
        have HB2 : Hid (w.heap.size ≤ pb) := hide (by omega)
        have HN2 : Hid (∀ x ∈ ([(w2.heap.size, 59, #[.int .u64 (qh : Int), .int .u64 (ql : Int), .bool qg]), (w1.heap.size, 59, #[.int .u64 (dh : Int), .int .u64 (dl : Int), .bool dg]), (w.heap.size + 1, 23, #[.int .i64 0, .int .i64 0]), (w.heap.size, 23, #[.int .i64 a.lo, .int .i64 a.hi])] : List (Nat × TypeId × Array Value)), x.1 ≠ pb) := hide (by clear hr; simp; omega)
        go_region_with (first
          | (go_at_call 45; ((with_reducible refine (P2.out _).mono ?_); rintro e w7 ⟨⟨zh, zl, zg, rfl, hn⟩, hb⟩); have WI := hide (fun W => rwith_any NP.out.1 NP.out.2 hn BP.out.1 BP.out.2 BB.out.2.2.2 W); (first | (replace HX := hide (HX.out.to hb)) | (replace HX := hide (HX.out.drew.to hb))); replace hr := HX.out.r5; clear hb hn)
          | (go_at_call 46; ((with_reducible refine (WI.out _).mono ?_); rintro e w3 ⟨⟨lh, ll, lg, hh, hl, hg, rfl, hn1, hn2⟩, hb⟩); (first | (replace HX := hide (HX.out.to hb)) | (replace HX := hide (HX.out.drew.to hb))); replace hr := HX.out.r5; have NP2 := hide (And.intro hn1 hn2); clear hb hn1 hn2))
        all_goals
          go_wp2_with fail
          go_meet
          exact ⟨lh, ll, lg, hh, hl, hg, NP2.out.1, NP2.out.2, HX.out.set6 HB2.out HN2.out _ _ _ _ _ _⟩
      case rest =>
        clear X hr NP
        obtain ⟨lh, ll, lg, hh, hl, hg, hn1, hn2, X⟩ := hcut
        have NP := hide (And.intro hn1 hn2)
        have BP2 := hide (And.intro (sm_mn BP.out.1 BB.out.2.2.2) (sm_mx BP.out.2 BB.out.2.2.2))
        clear BP hn1 hn2
        have BP := BP2
        clear BP2
        have hr := X.r5
        have HM : Hid (mn (mn d1 d2) u2 ≤ mx (mx u1 d2) u2) := hide (by have h := EM.out.2; rw [EM.out.1] at h; exact h)
        clear BP BB
        go_wp2_with fail
        refine (rwhole_any NP.out.1 NP.out.2 HM.out _).mono ?_
        rintro e w9 ⟨rfl, hb⟩
        replace X := X.to hb
        clear hb hr
        have hr := X.r5
        go_wp2
        exact bodyPost_ret (v := .tuple #[(resS (mn (mn d1 d2) u2) (mx (mx u1 d2) u2)).val, .int .i64 (resE (mn (mn d1 d2) u2) (mx (mx u1 d2) u2))]) (by simp [results, Tryd.results15, hr, go_sem]) rfl (RetSE.mk (by have HX := X.1; have hz := HX.size; go_grown) (by rw [EM.out.1]) (by rw [EM.out.1]))
end Go.Proofs.YtgflgnbbkhikcaaDoor
