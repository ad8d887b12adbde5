/- Parts of one proof, joined: The program's separates: whether a side of a triangle has another triangle on its right; nothing that was there is turned (printed by gen_sep.py). slices.IndexFunc and slices.ContainsFunc at integers, with a function that captures nothing and turns nothing; slices.Equal at integers. The functions that Check hands to slices.ContainsFunc, and these calls: what each returns; nothing that was there is turned. The function that Check hands to slices.ContainsFunc at corners, and this call: what each returns; nothing is turned. What Check holds on its way: rows of findings, the spots that are not right, maps, and triangles; what each step keeps. -/
import Derived.Test.YtaaadejamjbcbaaGreatDoorPkLanduseWhole3
import Derived.Deep.DeepCutAuto
import Derived.Test.YtaaadejamjbcbaaGreatDoorPkLanduseWhole2
import Derived.Deep.QuietTactic
import Derived.BigQuiet
import Derived.Shelf.Abstract
import Derived.Deep.AppendLies
namespace Go.Proofs.YtaaadejamjbcbaaGreatDoor
open Go Go.RowKit

theorem own_two {w W : World} {L : List (Nat × TypeId × Array Value)} {a b : Array Value} {s t : TypeId} (h : Own w W L) : Own w ((W.alloc (.cells a s)).alloc (.cells b t)).drew ((W.heap.size, s, a) :: (W.heap.size + 1, t, b) :: L) := by
  have Z := ((h.alloc a s).alloc b t).drew.swap
  rw [World.size_alloc] at Z
  exact Z
def sdK (t : Tri) : Nat → Pnt × Pnt
  | 0 => (t.p, t.q)
  | 1 => (t.q, t.r)
  | _ => (t.r, t.p)
theorem sep_yes {t u : Tri} {k : Nat} (hk : k < 3) (h : rgt (sdK t k).1 (sdK t k).2 u = true) : sepB t u = true := by
  unfold sepB
  obtain rfl | rfl | rfl : k = 0 ∨ k = 1 ∨ k = 2 := by omega
  all_goals simp only [sdK] at h; simp [h]
theorem sep_no {t u : Tri} (h : ∀ k, k < 3 → rgt (sdK t k).1 (sdK t k).2 u = false) : sepB t u = false := by
  unfold sepB
  have h0 := h 0 (by omega)
  have h1 := h 1 (by omega)
  have h2 := h 2 (by omega)
  simp only [sdK] at h0 h1 h2
  rw [h0, h1, h2]; rfl
theorem rgt_ways (a b : Pnt) (u : Tri) : (rgt a b u = false ∧ decide (trn a b u.p ≤ 0) = false) ∨ (rgt a b u = false ∧ decide (trn a b u.p ≤ 0) = true ∧ decide (trn a b u.q ≤ 0) = false) ∨
    (rgt a b u = false ∧ decide (trn a b u.p ≤ 0) = true ∧ decide (trn a b u.q ≤ 0) = true ∧ decide (trn a b u.r ≤ 0) = false) ∨ (rgt a b u = true ∧ decide (trn a b u.p ≤ 0) = true ∧ decide (trn a b u.q ≤ 0) = true ∧ decide (trn a b u.r ≤ 0) = true) := by
  unfold rgt
  cases decide (trn a b u.p ≤ 0) <;> cases decide (trn a b u.q ≤ 0) <;> cases decide (trn a b u.r ≤ 0) <;> simp
set_option maxRecDepth 100000 in
set_option maxHeartbeats 8000000 in
theorem mssep_any (t u : Tri) (w : World) (ht : t.in) (hu : u.in) : Calls Tryz.prog 74 #[.agg t.cells.toArray, .agg u.cells.toArray] w (RetW (.bool (sepB t u)) w) := by
  have X := ((Own.start w).alloc #[.int .i64 t.p.x, .int .i64 t.p.y, .int .i64 t.q.x, .int .i64 t.q.y, .int .i64 t.r.x, .int .i64 t.r.y] 102).alloc #[.int .i64 u.p.x, .int .i64 u.p.y, .int .i64 u.q.x, .int .i64 u.q.y, .int .i64 u.r.x, .int .i64 u.r.y] 102
  simp only [World.size_alloc] at X
  have HX := hide X
  clear X
  have TN := hide (fun W (a b c : Pnt) (ha : a.in) (hb : b.in) (hc : c.in) => msturn_any a b c W ha hb hc)
  unfold RetW at TN
  have HT := hide ht
  have HU := hide hu
  have YES := hide (fun k hk h => sep_yes (t := t) (u := u) (k := k) hk h)
  have NO := hide (fun h => sep_no (t := t) (u := u) h)
  generalize sepB t u = ans at *
  clear ht hu
  go_enter Tryz.func74, Tryz.ntmps74
  go_wp2
  go_loopw [8] (fun v8 wr => ∃ k : Nat, k ≤ 3 ∧ v8 = .int .i64 k ∧ Hid (Own w wr [(w.heap.size + 1, 102, #[.int .i64 u.p.x, .int .i64 u.p.y, .int .i64 u.q.x, .int .i64 u.q.y, .int .i64 u.r.x, .int .i64 u.r.y]), (w.heap.size, 102, #[.int .i64 t.p.x, .int .i64 t.p.y, .int .i64 t.q.x, .int .i64 t.q.y, .int .i64 t.r.x, .int .i64 t.r.y])]) ∧
    Hid (∀ j, j < k → rgt (sdK t j).1 (sdK t j).2 u = false)) (fun v8 _ => 3 - (intOf v8).toNat)
  case atStart => exact ⟨0, by omega, rfl, HX, hide (fun j hj => by omega)⟩
  case round =>
    obtain ⟨k, hk, rfl, HO, HN⟩ := hrel
    by_cases h3 : k = 3
    · subst h3
      have E := hide (NO.out HN.out)
      go_wp2
      go_ret
      exact ⟨ret_bool E.out.symm, HO.out.1⟩
    obtain rfl | rfl | rfl : k = 0 ∨ k = 1 ∨ k = 2 := by omega
    · clear hk h3
      have hr := HO.out.r2
      have HNK := hide (fun (h : rgt t.p t.q u = false) j (hj : j < 0 + 1) => (show rgt (sdK t j).1 (sdK t j).2 u = false by
        by_cases e : j = 0
        · subst e; exact h
        · exact HN.out j (by omega)))
      have YK := hide (fun (h : rgt t.p t.q u = true) => YES.out 0 (by omega) h)
      have IA : Pnt.in t.p := HT.out.1
      have IB : Pnt.in t.q := HT.out.2.1
      have RW := rgt_ways t.p t.q u
      have s1 : IntKind.i64.wrap 1 = 1 := by decide
      have s2 : (1 : Int).tmod 3 = 1 := by decide
      have n1 : ¬ (w.heap.size = w.heap.size + 1) := by omega
      have hz : w.heap.size + 1 < wr.heap.size := hr.1.2.2
      go_upto_region 4 with (fail)
      go_cut [6, 7] (fun v6 v7 wx => ∃ b6 b7 : Nat, v6 = .pointer (some ⟨b6, 0, none⟩) ∧ v7 = .pointer (some ⟨b7, 0, none⟩) ∧ Hid (Own w wx [(b6, 95, #[.int .i64 t.p.x, .int .i64 t.p.y]), (b7, 95, #[.int .i64 t.q.x, .int .i64 t.q.y]), (w.heap.size + 1, 102, #[.int .i64 u.p.x, .int .i64 u.p.y, .int .i64 u.q.x, .int .i64 u.q.y, .int .i64 u.r.x, .int .i64 u.r.y]), (w.heap.size, 102, #[.int .i64 t.p.x, .int .i64 t.p.y, .int .i64 t.q.x, .int .i64 t.q.y, .int .i64 t.r.x, .int .i64 t.r.y])]))
      case first =>
        go_region_held3 (fun w' => w'.cell? ⟨w.heap.size, 0, none⟩ = some (.int .i64 t.p.x) ∧ w'.cell? ⟨w.heap.size, 1, none⟩ = some (.int .i64 t.p.y) ∧ w'.cell? ⟨w.heap.size, 2, none⟩ = some (.int .i64 t.q.x) ∧ w'.cell? ⟨w.heap.size, 3, none⟩ = some (.int .i64 t.q.y)) (go_keep) (fail)
        all_goals
          go_wp2_with fail
          go_meet
          refine ⟨_, _, rfl, rfl, ?_⟩
          first | exact hide (own_two HO.out) | exact hide (own_two HO.out).swap
      case rest =>
        obtain ⟨b6, b7, rfl, rfl, HO⟩ := hcut
        clear hr hz n1 s1 s2
        have hr := HO.out.r4
        rcases RW with ⟨r1, t1⟩ | ⟨r1, t1, t2⟩ | ⟨r1, t1, t2, t3⟩ | ⟨r1, t1, t2, t3⟩
        · have HN2 := hide (HNK.out r1)
          clear r1 HNK YK HN
          go_wp2_with fail
          refine (TN.out _ t.p t.q u.p IA IB HU.out.1).mono ?_
          rintro e w1 ⟨rfl, hb⟩
          replace HO := hide (HO.out.to hb)
          clear hr hb
          have hr := HO.out.r4
          go_wp2
          go_roundw
          case rel => exact ⟨0 + 1, by omega, rfl, hide HO.out.tail.tail, HN2⟩
          case measure => simp [intOf]
        · have HN2 := hide (HNK.out r1)
          clear r1 HNK YK HN
          go_wp2_with fail
          refine (TN.out _ t.p t.q u.p IA IB HU.out.1).mono ?_
          rintro e w1 ⟨rfl, hb⟩
          replace HO := hide (HO.out.to hb)
          clear hr hb
          have hr := HO.out.r4
          go_wp2_with fail
          refine (TN.out _ t.p t.q u.q IA IB HU.out.2.1).mono ?_
          rintro e w1 ⟨rfl, hb⟩
          replace HO := hide (HO.out.to hb)
          clear hr hb
          have hr := HO.out.r4
          go_wp2
          go_roundw
          case rel => exact ⟨0 + 1, by omega, rfl, hide HO.out.tail.tail, HN2⟩
          case measure => simp [intOf]
        · have HN2 := hide (HNK.out r1)
          clear r1 HNK YK HN
          go_wp2_with fail
          refine (TN.out _ t.p t.q u.p IA IB HU.out.1).mono ?_
          rintro e w1 ⟨rfl, hb⟩
          replace HO := hide (HO.out.to hb)
          clear hr hb
          have hr := HO.out.r4
          go_wp2_with fail
          refine (TN.out _ t.p t.q u.q IA IB HU.out.2.1).mono ?_
          rintro e w1 ⟨rfl, hb⟩
          replace HO := hide (HO.out.to hb)
          clear hr hb
          have hr := HO.out.r4
          go_wp2_with fail
          refine (TN.out _ t.p t.q u.r IA IB HU.out.2.2).mono ?_
          rintro e w1 ⟨rfl, hb⟩
          replace HO := hide (HO.out.to hb)
          clear hr hb
          have hr := HO.out.r4
          go_wp2
          go_roundw
          case rel => exact ⟨0 + 1, by omega, rfl, hide HO.out.tail.tail, HN2⟩
          case measure => simp [intOf]
        · have E := hide (YK.out r1)
          clear r1 HNK YK HN
          go_wp2_with fail
          refine (TN.out _ t.p t.q u.p IA IB HU.out.1).mono ?_
          rintro e w1 ⟨rfl, hb⟩
          replace HO := hide (HO.out.to hb)
          clear hr hb
          have hr := HO.out.r4
          go_wp2_with fail
          refine (TN.out _ t.p t.q u.q IA IB HU.out.2.1).mono ?_
          rintro e w1 ⟨rfl, hb⟩
          replace HO := hide (HO.out.to hb)
          clear hr hb
          have hr := HO.out.r4
          go_wp2_with fail
          refine (TN.out _ t.p t.q u.r IA IB HU.out.2.2).mono ?_
          rintro e w1 ⟨rfl, hb⟩
          replace HO := hide (HO.out.to hb)
          clear hr hb
          have hr := HO.out.r4
          go_wp2
          go_ret
          exact ⟨ret_bool E.out.symm, HO.out.1⟩
    · clear hk h3
      have hr := HO.out.r2
      have HNK := hide (fun (h : rgt t.q t.r u = false) j (hj : j < 1 + 1) => (show rgt (sdK t j).1 (sdK t j).2 u = false by
        by_cases e : j = 1
        · subst e; exact h
        · exact HN.out j (by omega)))
      have YK := hide (fun (h : rgt t.q t.r u = true) => YES.out 1 (by omega) h)
      have IA : Pnt.in t.q := HT.out.2.1
      have IB : Pnt.in t.r := HT.out.2.2
      have RW := rgt_ways t.q t.r u
      have s1 : IntKind.i64.wrap 2 = 2 := by decide
      have s2 : (2 : Int).tmod 3 = 2 := by decide
      have n1 : ¬ (w.heap.size = w.heap.size + 1) := by omega
      have hz : w.heap.size + 1 < wr.heap.size := hr.1.2.2
      go_upto_region 4 with (fail)
      go_cut [6, 7] (fun v6 v7 wx => ∃ b6 b7 : Nat, v6 = .pointer (some ⟨b6, 0, none⟩) ∧ v7 = .pointer (some ⟨b7, 0, none⟩) ∧ Hid (Own w wx [(b6, 95, #[.int .i64 t.q.x, .int .i64 t.q.y]), (b7, 95, #[.int .i64 t.r.x, .int .i64 t.r.y]), (w.heap.size + 1, 102, #[.int .i64 u.p.x, .int .i64 u.p.y, .int .i64 u.q.x, .int .i64 u.q.y, .int .i64 u.r.x, .int .i64 u.r.y]), (w.heap.size, 102, #[.int .i64 t.p.x, .int .i64 t.p.y, .int .i64 t.q.x, .int .i64 t.q.y, .int .i64 t.r.x, .int .i64 t.r.y])]))
      case first =>
        go_region_held3 (fun w' => w'.cell? ⟨w.heap.size, 2, none⟩ = some (.int .i64 t.q.x) ∧ w'.cell? ⟨w.heap.size, 3, none⟩ = some (.int .i64 t.q.y) ∧ w'.cell? ⟨w.heap.size, 4, none⟩ = some (.int .i64 t.r.x) ∧ w'.cell? ⟨w.heap.size, 5, none⟩ = some (.int .i64 t.r.y)) (go_keep) (fail)
        all_goals
          go_wp2_with fail
          go_meet
          refine ⟨_, _, rfl, rfl, ?_⟩
          first | exact hide (own_two HO.out) | exact hide (own_two HO.out).swap
      case rest =>
        obtain ⟨b6, b7, rfl, rfl, HO⟩ := hcut
        clear hr hz n1 s1 s2
        have hr := HO.out.r4
        rcases RW with ⟨r1, t1⟩ | ⟨r1, t1, t2⟩ | ⟨r1, t1, t2, t3⟩ | ⟨r1, t1, t2, t3⟩
        · have HN2 := hide (HNK.out r1)
          clear r1 HNK YK HN
          go_wp2_with fail
          refine (TN.out _ t.q t.r u.p IA IB HU.out.1).mono ?_
          rintro e w1 ⟨rfl, hb⟩
          replace HO := hide (HO.out.to hb)
          clear hr hb
          have hr := HO.out.r4
          go_wp2
          go_roundw
          case rel => exact ⟨1 + 1, by omega, rfl, hide HO.out.tail.tail, HN2⟩
          case measure => simp [intOf]
        · have HN2 := hide (HNK.out r1)
          clear r1 HNK YK HN
          go_wp2_with fail
          refine (TN.out _ t.q t.r u.p IA IB HU.out.1).mono ?_
          rintro e w1 ⟨rfl, hb⟩
          replace HO := hide (HO.out.to hb)
          clear hr hb
          have hr := HO.out.r4
          go_wp2_with fail
          refine (TN.out _ t.q t.r u.q IA IB HU.out.2.1).mono ?_
          rintro e w1 ⟨rfl, hb⟩
          replace HO := hide (HO.out.to hb)
          clear hr hb
          have hr := HO.out.r4
          go_wp2
          go_roundw
          case rel => exact ⟨1 + 1, by omega, rfl, hide HO.out.tail.tail, HN2⟩
          case measure => simp [intOf]
        · have HN2 := hide (HNK.out r1)
          clear r1 HNK YK HN
          go_wp2_with fail
          refine (TN.out _ t.q t.r u.p IA IB HU.out.1).mono ?_
          rintro e w1 ⟨rfl, hb⟩
          replace HO := hide (HO.out.to hb)
          clear hr hb
          have hr := HO.out.r4
          go_wp2_with fail
          refine (TN.out _ t.q t.r u.q IA IB HU.out.2.1).mono ?_
          rintro e w1 ⟨rfl, hb⟩
          replace HO := hide (HO.out.to hb)
          clear hr hb
          have hr := HO.out.r4
          go_wp2_with fail
          refine (TN.out _ t.q t.r u.r IA IB HU.out.2.2).mono ?_
          rintro e w1 ⟨rfl, hb⟩
          replace HO := hide (HO.out.to hb)
          clear hr hb
          have hr := HO.out.r4
          go_wp2
          go_roundw
          case rel => exact ⟨1 + 1, by omega, rfl, hide HO.out.tail.tail, HN2⟩
          case measure => simp [intOf]
        · have E := hide (YK.out r1)
          clear r1 HNK YK HN
          go_wp2_with fail
          refine (TN.out _ t.q t.r u.p IA IB HU.out.1).mono ?_
          rintro e w1 ⟨rfl, hb⟩
          replace HO := hide (HO.out.to hb)
          clear hr hb
          have hr := HO.out.r4
          go_wp2_with fail
          refine (TN.out _ t.q t.r u.q IA IB HU.out.2.1).mono ?_
          rintro e w1 ⟨rfl, hb⟩
          replace HO := hide (HO.out.to hb)
          clear hr hb
          have hr := HO.out.r4
          go_wp2_with fail
          refine (TN.out _ t.q t.r u.r IA IB HU.out.2.2).mono ?_
          rintro e w1 ⟨rfl, hb⟩
          replace HO := hide (HO.out.to hb)
          clear hr hb
          have hr := HO.out.r4
          go_wp2
          go_ret
          exact ⟨ret_bool E.out.symm, HO.out.1⟩
    · clear hk h3
      have hr := HO.out.r2
      have HNK := hide (fun (h : rgt t.r t.p u = false) j (hj : j < 2 + 1) => (show rgt (sdK t j).1 (sdK t j).2 u = false by
        by_cases e : j = 2
        · subst e; exact h
        · exact HN.out j (by omega)))
      have YK := hide (fun (h : rgt t.r t.p u = true) => YES.out 2 (by omega) h)
      have IA : Pnt.in t.r := HT.out.2.2
      have IB : Pnt.in t.p := HT.out.1
      have RW := rgt_ways t.r t.p u
      have s1 : IntKind.i64.wrap 3 = 3 := by decide
      have s2 : (3 : Int).tmod 3 = 0 := by decide
      have n1 : ¬ (w.heap.size = w.heap.size + 1) := by omega
      have hz : w.heap.size + 1 < wr.heap.size := hr.1.2.2
      go_upto_region 4 with (fail)
      go_cut [6, 7] (fun v6 v7 wx => ∃ b6 b7 : Nat, v6 = .pointer (some ⟨b6, 0, none⟩) ∧ v7 = .pointer (some ⟨b7, 0, none⟩) ∧ Hid (Own w wx [(b6, 95, #[.int .i64 t.r.x, .int .i64 t.r.y]), (b7, 95, #[.int .i64 t.p.x, .int .i64 t.p.y]), (w.heap.size + 1, 102, #[.int .i64 u.p.x, .int .i64 u.p.y, .int .i64 u.q.x, .int .i64 u.q.y, .int .i64 u.r.x, .int .i64 u.r.y]), (w.heap.size, 102, #[.int .i64 t.p.x, .int .i64 t.p.y, .int .i64 t.q.x, .int .i64 t.q.y, .int .i64 t.r.x, .int .i64 t.r.y])]))
      case first =>
        go_region_held3 (fun w' => w'.cell? ⟨w.heap.size, 0, none⟩ = some (.int .i64 t.p.x) ∧ w'.cell? ⟨w.heap.size, 1, none⟩ = some (.int .i64 t.p.y) ∧ w'.cell? ⟨w.heap.size, 4, none⟩ = some (.int .i64 t.r.x) ∧ w'.cell? ⟨w.heap.size, 5, none⟩ = some (.int .i64 t.r.y)) (go_keep) (fail)
        all_goals
          go_wp2_with fail
          go_meet
          refine ⟨_, _, rfl, rfl, ?_⟩
          first | exact hide (own_two HO.out) | exact hide (own_two HO.out).swap
      case rest =>
        obtain ⟨b6, b7, rfl, rfl, HO⟩ := hcut
        clear hr hz n1 s1 s2
        have hr := HO.out.r4
        rcases RW with ⟨r1, t1⟩ | ⟨r1, t1, t2⟩ | ⟨r1, t1, t2, t3⟩ | ⟨r1, t1, t2, t3⟩
        · have HN2 := hide (HNK.out r1)
          clear r1 HNK YK HN
          go_wp2_with fail
          refine (TN.out _ t.r t.p u.p IA IB HU.out.1).mono ?_
          rintro e w1 ⟨rfl, hb⟩
          replace HO := hide (HO.out.to hb)
          clear hr hb
          have hr := HO.out.r4
          go_wp2
          go_roundw
          case rel => exact ⟨2 + 1, by omega, rfl, hide HO.out.tail.tail, HN2⟩
          case measure => simp [intOf]
        · have HN2 := hide (HNK.out r1)
          clear r1 HNK YK HN
          go_wp2_with fail
          refine (TN.out _ t.r t.p u.p IA IB HU.out.1).mono ?_
          rintro e w1 ⟨rfl, hb⟩
          replace HO := hide (HO.out.to hb)
          clear hr hb
          have hr := HO.out.r4
          go_wp2_with fail
          refine (TN.out _ t.r t.p u.q IA IB HU.out.2.1).mono ?_
          rintro e w1 ⟨rfl, hb⟩
          replace HO := hide (HO.out.to hb)
          clear hr hb
          have hr := HO.out.r4
          go_wp2
          go_roundw
          case rel => exact ⟨2 + 1, by omega, rfl, hide HO.out.tail.tail, HN2⟩
          case measure => simp [intOf]
        · have HN2 := hide (HNK.out r1)
          clear r1 HNK YK HN
          go_wp2_with fail
          refine (TN.out _ t.r t.p u.p IA IB HU.out.1).mono ?_
          rintro e w1 ⟨rfl, hb⟩
          replace HO := hide (HO.out.to hb)
          clear hr hb
          have hr := HO.out.r4
          go_wp2_with fail
          refine (TN.out _ t.r t.p u.q IA IB HU.out.2.1).mono ?_
          rintro e w1 ⟨rfl, hb⟩
          replace HO := hide (HO.out.to hb)
          clear hr hb
          have hr := HO.out.r4
          go_wp2_with fail
          refine (TN.out _ t.r t.p u.r IA IB HU.out.2.2).mono ?_
          rintro e w1 ⟨rfl, hb⟩
          replace HO := hide (HO.out.to hb)
          clear hr hb
          have hr := HO.out.r4
          go_wp2
          go_roundw
          case rel => exact ⟨2 + 1, by omega, rfl, hide HO.out.tail.tail, HN2⟩
          case measure => simp [intOf]
        · have E := hide (YK.out r1)
          clear r1 HNK YK HN
          go_wp2_with fail
          refine (TN.out _ t.r t.p u.p IA IB HU.out.1).mono ?_
          rintro e w1 ⟨rfl, hb⟩
          replace HO := hide (HO.out.to hb)
          clear hr hb
          have hr := HO.out.r4
          go_wp2_with fail
          refine (TN.out _ t.r t.p u.q IA IB HU.out.2.1).mono ?_
          rintro e w1 ⟨rfl, hb⟩
          replace HO := hide (HO.out.to hb)
          clear hr hb
          have hr := HO.out.r4
          go_wp2_with fail
          refine (TN.out _ t.r t.p u.r IA IB HU.out.2.2).mono ?_
          rintro e w1 ⟨rfl, hb⟩
          replace HO := hide (HO.out.to hb)
          clear hr hb
          have hr := HO.out.r4
          go_wp2
          go_ret
          exact ⟨ret_bool E.out.symm, HO.out.1⟩
end Go.Proofs.YtaaadejamjbcbaaGreatDoor

namespace Go.Proofs.YtaaadejamjbcbaaGreatDoor
open Go.RowKit

def idxP (p : Int → Bool) (l : List Int) : Int := match l.findIdx? p with | some i => (i : Int) | none => -1
theorem idxP_no {p : Int → Bool} {l : List Int} (h : ∀ i (hi : i < l.length), p l[i] = false) : idxP p l = -1 := by
  have : l.findIdx? p = none := by
    rw [List.findIdx?_eq_none_iff]
    intro x hx
    obtain ⟨i, hi, rfl⟩ := List.mem_iff_getElem.1 hx
    exact h i hi
  simp [idxP, this]
theorem idxP_yes {p : Int → Bool} {l : List Int} {k : Nat} (hk : k < l.length) (h : ∀ i (hi : i < l.length), i < k → p l[i] = false) (hy : p l[k] = true) : idxP p l = k := by
  have : l.findIdx? p = some k := by
    rw [List.findIdx?_eq_some_iff_getElem]
    exact ⟨hk, hy, fun j hj => by rw [h j (by omega) hj]; simp⟩
  simp [idxP, this]
theorem any_idx (p : Int → Bool) (l : List Int) : l.any p = decide (0 ≤ idxP p l) := by
  unfold idxP
  cases h : l.findIdx? p with
  | none =>
    rw [List.findIdx?_eq_none_iff] at h
    rw [Bool.eq_iff_iff]
    simp only [List.any_eq_true, decide_eq_true_eq]
    constructor
    · rintro ⟨x, hx, hp⟩
      rw [h x hx] at hp
      cases hp
    · intro h'
      omega
  | some i =>
    rw [List.findIdx?_eq_some_iff_getElem] at h
    obtain ⟨hi, hp, _⟩ := h
    rw [Bool.eq_iff_iff]
    simp only [List.any_eq_true, decide_eq_true_eq]
    exact ⟨fun _ => by omega, fun _ => ⟨l[i], List.getElem_mem hi, hp⟩⟩

set_option maxHeartbeats 1000000 in
theorem idxfI_any (f : Nat) (p : Int → Bool) (hf : ∀ (d : Int) (w : World), Calls Tryz.prog f #[.int .i64 d] w fun e w' => e = .returned (.bool (p d)) ∧ w = w') (hc : ∀ (d : Int) (w : World), (callFunc f #[.int .i64 d]).run Tryz.prog w = .ok (.enter f #[.int .i64 d]) w) (l : List Int) (A : Option Addr) (cap : Nat) (w : World) (hl : IntSl w A l) :
    Calls Tryz.prog 51 #[.slice A l.length cap, .func (.func f) #[] #[]] w fun e w' => e = .returned (.int .i64 (idxP p l)) ∧ w = w' := by
  have hlen : l.length ≤ 9223372036854775807 := by have := hl.1.1; omega
  have H := hide hl
  have F := hide hf
  clear hl hf
  go_enter Tryz.func51, Tryz.ntmps51
  go_wp2
  go_loop [8] (fun v8 => ∃ k : Nat, k ≤ l.length ∧ v8 = .int .i64 k ∧ Hid (∀ i (hi : i < l.length), i < k → p l[i] = false)) (fun v8 => l.length - (intOf v8).toNat)
  case atStart => exact ⟨0, Nat.zero_le _, rfl, hide (fun _ _ h => by omega)⟩
  case round =>
    obtain ⟨k, hk, rfl, hno⟩ := hrel
    by_cases hlt : k < l.length
    · obtain ⟨b, off, rfl, hbl, hat⟩ := H.out.2 (by omega)
      have c0 := hat k hlt
      clear hat
      rcases Bool.eq_false_or_eq_true (p l[k]) with hs | hs
      · go_wp2_with fail
        refine (F.out l[k] _).mono ?_
        rintro e w' ⟨rfl, rfl⟩
        go_wp2
        go_ret
        exact ⟨ret_int (idxP_yes hlt (fun i hi hik => hno.out i hi hik) hs).symm, rfl⟩
      · go_wp2_with fail
        refine (F.out l[k] _).mono ?_
        rintro e w' ⟨rfl, rfl⟩
        go_wp2
        go_round
        case rel =>
          refine ⟨k + 1, by omega, by go_num, hide fun i hi hik => ?_⟩
          by_cases e : i = k
          · subst e; exact hs
          · exact hno.out i hi (by omega)
        case measure => simp [intOf]; omega
    · go_wp2
      go_ret
      exact ⟨ret_int (idxP_no fun i hi => hno.out i hi (by omega)).symm, rfl⟩
set_option maxHeartbeats 1000000 in
theorem contI_any (f : Nat) (p : Int → Bool) (hf : ∀ (d : Int) (w : World), Calls Tryz.prog f #[.int .i64 d] w fun e w' => e = .returned (.bool (p d)) ∧ w = w') (hc : ∀ (d : Int) (w : World), (callFunc f #[.int .i64 d]).run Tryz.prog w = .ok (.enter f #[.int .i64 d]) w) (l : List Int) (A : Option Addr) (cap : Nat) (w : World) (hl : IntSl w A l) :
    Calls Tryz.prog 29 #[.slice A l.length cap, .func (.func f) #[] #[]] w fun e w' => e = .returned (.bool (l.any p)) ∧ w = w' := by
  have F := hide hf
  have H := hide (any_idx p l)
  clear hf
  have HL := hide hl
  clear hl
  go_enter Tryz.func29, Tryz.ntmps29
  go_wp2_with fail
  refine (idxfI_any f p F.out hc l A cap _ HL.out).mono ?_
  rintro e w' ⟨rfl, rfl⟩
  go_wp2
  go_ret
  exact ⟨ret_bool H.out.symm, rfl⟩
theorem below_drewN {B : Nat} {a w : World} (h : Below B a w) (n : Nat) : Below B a (w.drewN n) := ⟨h.os, h.tape, h.output, h.size, h.block⟩
/-- two lists of integers are equal -/
def eqB (l m : List Int) : Bool := decide (l = m)
set_option maxHeartbeats 1000000 in
theorem equalI_any (l m : List Int) (A B : Option Addr) (cap cap' : Nat) (w : World) (hl : IntSl w A l) (hm : IntSl w B m) :
    Calls Tryz.prog 15 #[.slice A l.length cap, .slice B m.length cap'] w fun e w' => e = .returned (.bool (eqB l m)) ∧ Below w.heap.size w w' := by
  have hlen : l.length ≤ 9223372036854775807 := by have := hl.1.1; omega
  have hlen' : m.length ≤ 9223372036854775807 := by have := hm.1.1; omega
  have H := hide hl
  have H' := hide hm
  clear hl hm
  by_cases hn : l.length = m.length
  case neg =>
    have q : ((l.length : Int) == (m.length : Int)) = false := by simp; omega
    have q' : ((l.length : Int) != (m.length : Int)) = true := by simp; omega
    have hv : eqB l m = false := by simp only [eqB, decide_eq_false_iff_not]; intro e; exact hn (by rw [e])
    have HV := hide hv
    clear hn hv
    go_enter Tryz.func15, Tryz.ntmps15
    go_wp2
    go_ret
    exact ⟨ret_bool HV.out.symm, Below.refl _ _⟩
  have q : ((l.length : Int) == (m.length : Int)) = true := by simp; omega
  have q' : ((l.length : Int) != (m.length : Int)) = false := by simp; omega
  have HN := hide hn
  clear hn
  go_enter Tryz.func15, Tryz.ntmps15
  go_wp2
  go_loopw [13] (fun v wr => ∃ k : Nat, k ≤ l.length ∧ v = .int .i64 k ∧ Below w.heap.size w wr ∧ Hid (∀ i (h : i < l.length) (h' : i < m.length), i < k → l[i] = m[i])) (fun v _ => l.length - (intOf v).toNat)
  case atStart => exact ⟨0, Nat.zero_le _, rfl, Below.refl _ _, hide (fun _ _ _ h => by omega)⟩
  case round =>
    obtain ⟨k, hk, rfl, hb, hno⟩ := hrel
    by_cases hlt : k < l.length
    · have hlt' : k < m.length := by rw [← HN.out]; exact hlt
      obtain ⟨b, off, rfl, hbl, hat⟩ := (H.out.below hb).2 (by omega)
      obtain ⟨b', off', rfl, hbl', hat'⟩ := (H'.out.below hb).2 (by omega)
      have c0 := hat k hlt
      have c1 := hat' k hlt'
      have g0 : (0 : Int) ≤ (k : Int) := by omega
      have g1 : (k : Int) < (l.length : Int) := by omega
      have g2 : (k : Int) < (m.length : Int) := by omega
      clear hat hat' q q'
      have HB := hide hb
      clear hb
      by_cases e : l[k] = m[k]
      · have e1 : (l[k] == m[k]) = true := by simpa using e
        have e2 : (l[k] != m[k]) = false := by simpa using e
        have E := hide e
        clear e
        go_wp2
        go_quiet (fail)
        go_wp2
        go_roundw
        case rel =>
          refine ⟨k + 1, by omega, by go_num, below_drewN HB.out _, hide fun i h h' hik => ?_⟩
          by_cases e : i = k
          · subst e; exact E.out
          · exact hno.out i h h' (by omega)
        case measure => simp [intOf]; omega
      · have e1 : (l[k] == m[k]) = false := by simpa using e
        have e2 : (l[k] != m[k]) = true := by simpa using e
        have hv : eqB l m = false := by simp only [eqB, decide_eq_false_iff_not]; intro h; exact e (by simp only [h])
        have HV := hide hv
        clear e hv
        go_wp2
        go_quiet (fail)
        go_wp2
        go_ret
        exact ⟨ret_bool HV.out.symm, below_drewN HB.out _⟩
    · have hv : eqB l m = true := by
        simp only [eqB, decide_eq_true_eq]
        exact List.ext_getElem HN.out (fun i h h' => hno.out i h h' (by omega))
      have HV := hide hv
      have HB := hide hb
      clear hv hb q q'
      go_wp2
      go_ret
      exact ⟨ret_bool HV.out.symm, HB.out⟩
end Go.Proofs.YtaaadejamjbcbaaGreatDoor

namespace Go.Proofs.YtaaadejamjbcbaaGreatDoor
open Go Go.RowKit

set_option maxHeartbeats 2000000 in
theorem chk2_any (t o : Tri) (bt : Nat) (w : World) (ht : t.in) (ho : o.in) (hB : Blk w bt 102 t.cells.toArray) :
    Calls Tryz.prog 73 #[.agg o.cells.toArray, .pointer (some ⟨bt, 0, none⟩)] w (RetW (.bool (ovlB t o)) w) := by
  have S1 := hide (fun W => mssep_any t o W ht ho)
  have S2 := hide (fun W => mssep_any o t W ho ht)
  unfold RetW at S1 S2
  have E : Hid (ovlB t o = (!sepB t o && !sepB o t)) := hide rfl
  have X := (show Own w w [(bt, 102, #[.int .i64 t.p.x, .int .i64 t.p.y, .int .i64 t.q.x, .int .i64 t.q.y, .int .i64 t.r.x, .int .i64 t.r.y])] from ⟨Below.refl _ _, fun x hx => by rw [List.mem_singleton.1 hx]; exact hB⟩).alloc #[.int .i64 o.p.x, .int .i64 o.p.y, .int .i64 o.q.x, .int .i64 o.q.y, .int .i64 o.r.x, .int .i64 o.r.y] 102
  have n0 := hB.lt
  have n1 : ¬ bt = w.heap.size := by omega
  have hr0 := hB.rules
  generalize sepB t o = b1 at *
  generalize sepB o t = b2 at *
  have hr := X.r2
  cases b1 <;> cases b2
  all_goals
    go_enter Tryz.func73, Tryz.ntmps73
    go_wp2_with fail
    refine (S1.out _).mono ?_
    rintro e w1 ⟨rfl, hb⟩
    replace X := X.to hb
    clear hr hb hr0
    have hr := X.r2
    first
      | (go_wp2_with fail
         refine (S2.out _).mono ?_
         rintro e w2 ⟨rfl, hb⟩
         replace X := X.to hb
         clear hr hb)
      | skip
    go_wp2
    go_ret
    exact ⟨ret_bool (by rw [E.out]; rfl), X.1⟩
/-- a slice of triangles that reads as a list -/
def TriSl (w : World) (A : Option Addr) (l : List Tri) : Prop :=
  l.length ≤ 9223372036854775807 ∧ (0 < l.length → ∃ b off, A = some ⟨b, off, none⟩ ∧ b < w.heap.size ∧ ∀ i (h : i < l.length), w.cell? ⟨b, off + i * 6, none⟩ = some (.int .i64 l[i].p.x) ∧ w.cell? ⟨b, off + i * 6 + 1, none⟩ = some (.int .i64 l[i].p.y) ∧
    w.cell? ⟨b, off + i * 6 + 2, none⟩ = some (.int .i64 l[i].q.x) ∧ w.cell? ⟨b, off + i * 6 + 3, none⟩ = some (.int .i64 l[i].q.y) ∧ w.cell? ⟨b, off + i * 6 + 4, none⟩ = some (.int .i64 l[i].r.x) ∧ w.cell? ⟨b, off + i * 6 + 5, none⟩ = some (.int .i64 l[i].r.y))
theorem TriSl.below {w w' : World} {A : Option Addr} {l : List Tri} (h : TriSl w A l) (hb : Below w.heap.size w w') : TriSl w' A l :=
  ⟨h.1, fun hl => by
    obtain ⟨b, off, e, hlt, hat⟩ := h.2 hl
    have k := fun (i : Nat) => hb.cell (p := ⟨b, i, none⟩) hlt
    refine ⟨b, off, e, Nat.lt_of_lt_of_le hlt hb.size, fun i hi => ?_⟩
    obtain ⟨a0, a1, a2, a3, a4, a5⟩ := hat i hi
    exact ⟨(k _).trans a0, (k _).trans a1, (k _).trans a2, (k _).trans a3, (k _).trans a4, (k _).trans a5⟩⟩
def idxT (p : Tri → Bool) (l : List Tri) : Int := match l.findIdx? p with | some i => (i : Int) | none => -1
theorem idxT_no {p : Tri → Bool} {l : List Tri} (h : ∀ i (hi : i < l.length), p l[i] = false) : idxT p l = -1 := by
  have : l.findIdx? p = none := by
    rw [List.findIdx?_eq_none_iff]
    intro x hx
    obtain ⟨i, hi, rfl⟩ := List.mem_iff_getElem.1 hx
    exact h i hi
  simp [idxT, this]
theorem idxT_yes {p : Tri → Bool} {l : List Tri} {k : Nat} (hk : k < l.length) (h : ∀ i (hi : i < l.length), i < k → p l[i] = false) (hy : p l[k] = true) : idxT p l = k := by
  have : l.findIdx? p = some k := by
    rw [List.findIdx?_eq_some_iff_getElem]
    exact ⟨hk, hy, fun j hj => by rw [h j (by omega) hj]; simp⟩
  simp [idxT, this]
theorem any_idxT (p : Tri → Bool) (l : List Tri) : l.any p = decide (0 ≤ idxT p l) := by
  unfold idxT
  cases h : l.findIdx? p with
  | none =>
    rw [List.findIdx?_eq_none_iff] at h
    rw [Bool.eq_iff_iff]
    simp only [List.any_eq_true, decide_eq_true_eq]
    constructor
    · rintro ⟨x, hx, hp⟩
      rw [h x hx] at hp
      cases hp
    · intro h'
      omega
  | some i =>
    rw [List.findIdx?_eq_some_iff_getElem] at h
    obtain ⟨hi, hp, _⟩ := h
    rw [Bool.eq_iff_iff]
    simp only [List.any_eq_true, decide_eq_true_eq]
    exact ⟨fun _ => by omega, fun _ => ⟨l[i], List.getElem_mem hi, hp⟩⟩
set_option maxRecDepth 100000 in
set_option maxHeartbeats 2000000 in
theorem idxT_any (t : Tri) (l : List Tri) (A : Option Addr) (cap bt : Nat) (w : World) (hl : TriSl w A l) (ht : t.in) (hi : ∀ o ∈ l, Tri.in o) (hB : Blk w bt 102 t.cells.toArray) :
    Calls Tryz.prog 87 #[.slice A l.length cap, .func (.func 73) #[] #[.pointer (some ⟨bt, 0, none⟩)]] w (RetW (.int .i64 (idxT (ovlB t) l)) w) := by
  have hlen : l.length ≤ 9223372036854775807 := hl.1
  have H := hide hl
  have HB := hide hB
  have CK := hide (fun W o (ho : o ∈ l) h => chk2_any t o bt W ht (hi o ho) h)
  unfold RetW at CK
  have nb := hB.lt
  clear hl hB ht hi
  go_enter Tryz.func87, Tryz.ntmps87
  go_wp2
  go_loopw [8] (fun v8 wr => ∃ k : Nat, k ≤ l.length ∧ v8 = .int .i64 k ∧ Hid (Below w.heap.size w wr) ∧ Hid (∀ i (hi : i < l.length), i < k → ovlB t l[i] = false)) (fun v8 _ => l.length - (intOf v8).toNat)
  case atStart => exact ⟨0, Nat.zero_le _, rfl, hide (Below.refl _ _), hide (fun _ _ h => by omega)⟩
  case round =>
    obtain ⟨k, hk, rfl, HW, hno⟩ := hrel
    by_cases hlt : k < l.length
    · obtain ⟨b, off, rfl, hbl, hat⟩ := (H.out.below HW.out).2 (by omega)
      obtain ⟨c0, c1, c2, c3, c4, c5⟩ := hat k hlt
      have HBk := hide (HB.out.below HW.out nb)
      have CKk := hide (fun W h => CK.out W l[k] (List.getElem_mem hlt) h)
      clear hat
      by_cases hs : ovlB t l[k] = true
      · have E := hide (idxT_yes (p := ovlB t) hlt (fun i hi hik => hno.out i hi hik) hs)
        rw [hs] at CKk
        clear hs
        generalize l[k] = o at *
        go_wp2_with fail
        refine (CKk.out _ HBk.out).mono ?_
        rintro e w' ⟨rfl, hb⟩
        go_wp2
        go_ret
        exact ⟨ret_int E.out.symm, below_via HW.out HW.out.size hb⟩
      · have hs : ovlB t l[k] = false := by simpa using hs
        have hno2 := hide (fun i (hi : i < l.length) (hik : i < k + 1) => (show ovlB t l[i] = false by
          by_cases e : i = k
          · subst e; exact hs
          · exact hno.out i hi (by omega)))
        rw [hs] at CKk
        clear hs
        generalize l[k] = o at *
        go_wp2_with fail
        refine (CKk.out _ HBk.out).mono ?_
        rintro e w' ⟨rfl, hb⟩
        have HW2 := hide (below_via HW.out HW.out.size hb)
        clear hb
        go_wp2
        go_roundw
        case rel => exact ⟨k + 1, by omega, by go_num, HW2, hno2⟩
        case measure => simp [intOf]; omega
    · go_wp2
      go_ret
      exact ⟨ret_int (idxT_no fun i hi => hno.out i hi (by omega)).symm, HW.out⟩
set_option maxHeartbeats 1000000 in
theorem contT_any (t : Tri) (l : List Tri) (A : Option Addr) (cap bt : Nat) (w : World) (hl : TriSl w A l) (ht : t.in) (hi : ∀ o ∈ l, Tri.in o) (hB : Blk w bt 102 t.cells.toArray) :
    Calls Tryz.prog 72 #[.slice A l.length cap, .func (.func 73) #[] #[.pointer (some ⟨bt, 0, none⟩)]] w (RetW (.bool (l.any (ovlB t))) w) := by
  have C := hide (idxT_any t l A cap bt w hl ht hi hB)
  have E := hide (any_idxT (ovlB t) l)
  generalize idxT (ovlB t) l = i at *
  unfold RetW at C
  clear hl ht hi hB
  go_enter Tryz.func72, Tryz.ntmps72
  go_wp2_with fail
  refine C.out.mono ?_
  rintro e w' ⟨rfl, hb⟩
  go_wp2
  go_ret
  exact ⟨ret_bool E.out.symm, hb⟩
end Go.Proofs.YtaaadejamjbcbaaGreatDoor

namespace Go.Proofs.YtaaadejamjbcbaaGreatDoor
open Go Go.RowKit

set_option maxHeartbeats 1000000 in
theorem idxfI2_any (f : Nat) (p : Int → Bool) (p1 p2 : Value) (w : World) (hf : ∀ d : Int, Calls Tryz.prog f #[.int .i64 d, p1, p2] w fun e w' => e = .returned (.bool (p d)) ∧ w = w') (hc : ∀ (d : Int) (w : World), (callFunc f #[.int .i64 d, p1, p2]).run Tryz.prog w = .ok (.enter f #[.int .i64 d, p1, p2]) w) (l : List Int) (A : Option Addr) (cap : Nat) (hl : IntSl w A l) :
    Calls Tryz.prog 51 #[.slice A l.length cap, .func (.func f) #[] #[p1, p2]] w fun e w' => e = .returned (.int .i64 (idxP p l)) ∧ w = w' := by
  have hlen : l.length ≤ 9223372036854775807 := by have := hl.1.1; omega
  have H := hide hl
  have F := hide hf
  clear hl hf
  go_enter Tryz.func51, Tryz.ntmps51
  go_wp2
  go_loop [8] (fun v8 => ∃ k : Nat, k ≤ l.length ∧ v8 = .int .i64 k ∧ Hid (∀ i (hi : i < l.length), i < k → p l[i] = false)) (fun v8 => l.length - (intOf v8).toNat)
  case atStart => exact ⟨0, Nat.zero_le _, rfl, hide (fun _ _ h => by omega)⟩
  case round =>
    obtain ⟨k, hk, rfl, hno⟩ := hrel
    by_cases hlt : k < l.length
    · obtain ⟨b, off, rfl, hbl, hat⟩ := H.out.2 (by omega)
      have c0 := hat k hlt
      clear hat
      rcases Bool.eq_false_or_eq_true (p l[k]) with hs | hs
      · go_wp2_with fail
        refine (F.out l[k]).mono ?_
        rintro e w' ⟨rfl, rfl⟩
        go_wp2
        go_ret
        exact ⟨ret_int (idxP_yes hlt (fun i hi hik => hno.out i hi hik) hs).symm, rfl⟩
      · go_wp2_with fail
        refine (F.out l[k]).mono ?_
        rintro e w' ⟨rfl, rfl⟩
        go_wp2
        go_round
        case rel =>
          refine ⟨k + 1, by omega, by go_num, hide fun i hi hik => ?_⟩
          by_cases e : i = k
          · subst e; exact hs
          · exact hno.out i hi (by omega)
        case measure => simp [intOf]; omega
    · go_wp2
      go_ret
      exact ⟨ret_int (idxP_no fun i hi => hno.out i hi (by omega)).symm, rfl⟩
set_option maxHeartbeats 1000000 in
theorem contI2_any (f : Nat) (p : Int → Bool) (p1 p2 : Value) (w : World) (hf : ∀ d : Int, Calls Tryz.prog f #[.int .i64 d, p1, p2] w fun e w' => e = .returned (.bool (p d)) ∧ w = w') (hc : ∀ (d : Int) (w : World), (callFunc f #[.int .i64 d, p1, p2]).run Tryz.prog w = .ok (.enter f #[.int .i64 d, p1, p2]) w) (l : List Int) (A : Option Addr) (cap : Nat) (hl : IntSl w A l) :
    Calls Tryz.prog 29 #[.slice A l.length cap, .func (.func f) #[] #[p1, p2]] w fun e w' => e = .returned (.bool (l.any p)) ∧ w = w' := by
  have F := hide hf
  have H := hide (any_idx p l)
  clear hf
  have HL := hide hl
  clear hl
  go_enter Tryz.func29, Tryz.ntmps29
  go_wp2_with fail
  refine (idxfI2_any f p p1 p2 _ F.out hc l A cap HL.out).mono ?_
  rintro e w' ⟨rfl, rfl⟩
  go_wp2
  go_ret
  exact ⟨ret_bool H.out.symm, rfl⟩
/-- a slice of bools that says which spots are not right -/
def FarSl (w : World) (A : Option Addr) (l : List Spt) : Prop := 0 < l.length → ∃ b off, A = some ⟨b, off, none⟩ ∧ b < w.heap.size ∧ ∀ i (h : i < l.length), w.cell? ⟨b, off + i, none⟩ = some (.bool (!okS l[i]))
theorem FarSl.below {w w' : World} {A : Option Addr} {l : List Spt} (h : FarSl w A l) (hb : Below w.heap.size w w') : FarSl w' A l := fun hl => by
  obtain ⟨b, off, e, hlt, hat⟩ := h hl
  exact ⟨b, off, e, Nat.lt_of_lt_of_le hlt hb.size, fun i hi => (hb.cell (p := ⟨b, off + i, none⟩) hlt).trans (hat i hi)⟩
set_option maxHeartbeats 2000000 in
theorem chk1_any (m : Msh) (a : MshA) (k : Int) (bm bf : Nat) (F : Option Addr) (fc : Nat) (w : World) (hlen : m.ss.length ≤ 9223372036854775807) (hM : Blk w bm 25 (m.cells a)) (hF : Blk w bf 120 #[.slice F m.ss.length fc]) (hs : FarSl w F m.ss) :
    Calls Tryz.prog 70 #[.int .i64 k, .pointer (some ⟨bm, 0, none⟩), .pointer (some ⟨bf, 0, none⟩)] w fun e w' => e = .returned (.bool (!cnB m.ss k)) ∧ w = w' := by
  have E : Hid (cnB m.ss k = (decide (0 ≤ k) && decide (k < m.ss.length) && okS (spA m.ss k))) := hide rfl
  have r1 := hM.rules
  have r2 := hF.rules
  by_cases h0 : 0 ≤ k
  case neg =>
    have d0 : decide (k < 0) = true := decide_eq_true (by omega)
    go_enter Tryz.func70, Tryz.ntmps70
    go_wp2
    go_ret
    exact ⟨ret_bool (by rw [E.out]; simp [h0]), rfl⟩
  obtain ⟨k, rfl⟩ : ∃ n : Nat, k = (n : Int) := ⟨k.toNat, by omega⟩
  have d0 : decide ((k : Int) < 0) = false := decide_eq_false (by omega)
  by_cases h1 : k < m.ss.length
  case neg =>
    go_enter Tryz.func70, Tryz.ntmps70
    go_wp2
    go_ret
    exact ⟨ret_bool (by rw [E.out]; simp; omega), rfl⟩
  obtain ⟨b, off, rfl, hbl, hat⟩ := hs (by omega)
  have c0 := hat k h1
  have es : spA m.ss (k : Int) = m.ss[k] := by simp [spA, h1]
  rw [es] at E
  have E2 : Hid (cnB m.ss (k : Int) = okS m.ss[k]) := hide (by rw [E.out]; simp [h1])
  clear E es hat
  generalize okS m.ss[k] = ok at *
  go_enter Tryz.func70, Tryz.ntmps70
  go_wp2
  go_ret
  exact ⟨ret_bool (by rw [E2.out]; simp; omega), rfl⟩
theorem cont1_any (m : Msh) (a : MshA) (l : List Int) (A : Option Addr) (cap bm bf : Nat) (F : Option Addr) (fc : Nat) (w : World) (hl : IntSl w A l) (hlen : m.ss.length ≤ 9223372036854775807) (hM : Blk w bm 25 (m.cells a)) (hF : Blk w bf 120 #[.slice F m.ss.length fc]) (hs : FarSl w F m.ss) :
    Calls Tryz.prog 29 #[.slice A l.length cap, .func (.func 70) #[] #[.pointer (some ⟨bm, 0, none⟩), .pointer (some ⟨bf, 0, none⟩)]] w fun e w' => e = .returned (.bool (l.any fun k => !cnB m.ss k)) ∧ w = w' :=
  contI2_any 70 (fun k => !cnB m.ss k) _ _ w (fun d => chk1_any m a d bm bf F fc w hlen hM hF hs) (fun d w => enters_of Tryz.func70 (by kernel_rfl) rfl _ w) l A cap hl
end Go.Proofs.YtaaadejamjbcbaaGreatDoor

namespace Go.Proofs.YtaaadejamjbcbaaGreatDoor
open Go Go.RowKit

def upF {α : Type} (f : Nat → α) (k : Nat) (v : α) : Nat → α := fun j => if j = k then v else f j
def cF (f : Nat → Value) : Array Value := #[f 0, f 1, f 2, f 3, f 4, f 5, f 6]
theorem cF_set (f : Nat → Value) {k : Nat} (hk : k < 7) (v : Value) : (cF f).setIfInBounds k v = cF (upF f k v) := by
  obtain rfl | rfl | rfl | rfl | rfl | rfl | rfl : k = 0 ∨ k = 1 ∨ k = 2 ∨ k = 3 ∨ k = 4 ∨ k = 5 ∨ k = 6 := by omega
  all_goals rfl
abbrev natV (l : List Nat) : List Value := l.map fun i : Nat => Value.int .i64 (i : Int)
/-- the rows of findings: each in a block of its own -/
structure Six (W : World) (B : Nat) (f : Nat → Value) (L : Nat → List Nat) : Prop where
  row : ∀ k, k < 7 → W.ownsRow B 3 1 (f k) (L k).length (natV (L k))
  ne : ∀ j k, j < 7 → k < 7 → j ≠ k → (f j).ownBlock = none ∨ (f j).ownBlock ≠ (f k).ownBlock
section
variable {W W' : World} {B : Nat} {f : Nat → Value} {L : Nat → List Nat}
theorem Six.kept {row : Option Nat} (h : Six W B f L) (hg : W.grownBy W' row) (hn : ∀ k, k < 7 → (f k).ownBlock = none ∨ (f k).ownBlock ≠ row) : Six W' B f L :=
  ⟨fun k hk => (h.row k hk).kept hg (hn k hk), h.ne⟩
theorem Six.to (h : Six W B f L) (hb : Below W.heap.size W W') : Six W' B f L := h.kept (grown_of_below hb none) (fun k _ => by cases (f k).ownBlock <;> simp)
theorem Six.set {g : Nat} {t : TypeId} {cs : Array Value} (h : Six W B f L) (hB : Blk W g t cs) (hne : 3 ≠ t) (i : Nat) (u : Value) : Six (W.setCell ⟨g, i, none⟩ u) B f L :=
  ⟨fun k hk => row_set (h.row k hk) hB hne i u, h.ne⟩
theorem Six.app {k x g c : Nat} (h : Six W B f L) (hk : k < 7) (hown : W'.ownsRow B 3 1 (.slice (some ⟨g, 0, none⟩) ((L k).length + 1) c) ((L k).length + 1) (natV (L k) ++ [.int .i64 (x : Int)]))
    (hg : W.grownBy W' (f k).ownBlock) (hv : (f k).ownBlock = some g ∨ g = W.heap.size) : Six W' B (upF f k (.slice (some ⟨g, 0, none⟩) ((L k).length + 1) c)) (upF L k (L k ++ [x])) := by
  have lt : ∀ j, j < 7 → ∀ b, (f j).ownBlock = some b → b < W.heap.size := fun j hj b e => ((h.row j hj).lt b e).2
  have nk : ∀ j, j < 7 → j ≠ k → (f j).ownBlock = none ∨ (f j).ownBlock ≠ some g := fun j hj hjk => by
    rcases hv with hv | hv
    · rw [← hv]; exact h.ne j k hj hk hjk
    · cases e : (f j).ownBlock with
      | none => exact .inl rfl
      | some b =>
        have := lt j hj b e
        exact .inr (by intro e'; injection e' with e'; omega)
  refine ⟨fun j hj => ?_, fun i j hi hj hij => ?_⟩
  · unfold upF
    by_cases e : j = k
    · subst e
      simp only [if_true, List.length_append, List.length_singleton]
      simpa [natV] using hown
    · simp only [if_neg e]
      exact (h.row j hj).kept hg (h.ne j k hj hk e)
  · unfold upF
    by_cases e1 : i = k
    · subst e1
      simp only [if_true, if_neg (Ne.symm hij)]
      rcases nk j hj (Ne.symm hij) with e | e
      · exact .inr (by rw [e]; simp [Value.ownBlock])
      · exact .inr (fun e' => e e'.symm)
    · by_cases e2 : j = k
      · subst e2
        simp only [if_true, if_neg e1]
        exact nk i hi e1
      · simp only [if_neg e1, if_neg e2]
        exact h.ne i j hi hj hij
theorem Six.nil (W : World) (B : Nat) : Six W B (fun _ => .slice none 0 0) (fun _ => []) := ⟨fun _ _ => World.ownsRow_nil _ _ _ _, fun _ _ _ _ _ => .inl rfl⟩
theorem Six.notMap (h : Six W B f L) {b : Nat} {es : Array MapEntry} {c : Nat} (hb : W.heap[b]? = some (.map es c)) : ∀ k, k < 7 → (f k).ownBlock = none ∨ (f k).ownBlock ≠ some b := fun k hk => by
  rcases (h.row k hk).2 with ⟨e, _⟩ | ⟨g, cap, cur, e, _, hg, _⟩
  · exact .inl (by rw [e]; rfl)
  · refine .inr fun e2 => ?_
    rw [e] at e2
    obtain rfl : g = b := by simpa [Value.ownBlock] using e2
    rw [hg] at hb; cases hb
end
theorem MapB.blk {W : World} {k b n : Nat} {D : DataW Unit} (h : MapB W k b n D) : ∃ es c, W.heap[b]? = some (.map es c) := by
  obtain ⟨es, c, hb, _⟩ := h
  exact ⟨es, c, hb⟩
theorem MapB.to {W W' : World} {k b n : Nat} {D : DataW Unit} (h : MapB W k b n D) (hb : Below W.heap.size W W') : MapB W' k b n D := World.ownsMap.kept h (grown_of_below hb none) (by simp)
/-- a row's growth keeps a map -/
theorem MapB.row {W W' : World} {k b n : Nat} {D : DataW Unit} (h : MapB W k b n D) {B e sz m : Nat} {v : Value} {xs : List Value} (hr : W.ownsRow B e sz v m xs) (hg : W.grownBy W' v.ownBlock) : MapB W' k b n D := by
  obtain ⟨es, c, hb⟩ := h.blk
  refine World.ownsMap.kept h hg (fun e => ?_)
  rcases hr.2 with ⟨rfl, _⟩ | ⟨g, cap, cur, rfl, _, hg', _⟩
  · cases e
  · obtain rfl : b = g := by simpa [Value.ownBlock] using e
    rw [hg'] at hb; cases hb
/-- a map's growth keeps blocks, rows, and other maps -/
theorem Own.gmap {w W W' : World} {L : List (Nat × TypeId × Array Value)} {k b n : Nat} {D : DataW Unit} (h : Own w W L) (hm : MapB W k b n D) (hb : w.heap.size ≤ b) (hg : W.grownBy W' (some b)) : Own w W' L := by
  obtain ⟨es, c, he⟩ := hm.blk
  refine ⟨h.1.grown hg h.1.size (fun j hj => by injection hj with hj; omega), fun x hx => (h.2 x hx).grown hg (fun e => ?_)⟩
  injection e with e
  have := h.2 x hx
  unfold Blk at this
  rw [e, he] at this
  cases this
theorem row_gmap {W W' : World} {k b n : Nat} {D : DataW Unit} (hm : MapB W k b n D) (hg : W.grownBy W' (some b)) {B e sz m : Nat} {v : Value} {xs : List Value} (hr : W.ownsRow B e sz v m xs) : W'.ownsRow B e sz v m xs := by
  obtain ⟨es, c, he⟩ := hm.blk
  refine hr.kept hg ?_
  rcases hr.2 with ⟨rfl, _⟩ | ⟨g, cap, cur, rfl, _, hg', _⟩
  · exact .inl rfl
  · refine .inr fun e2 => ?_
    obtain rfl : g = b := by simpa [Value.ownBlock] using e2
    rw [hg'] at he; cases he
theorem Six.gmap {W W' : World} {B : Nat} {f : Nat → Value} {L : Nat → List Nat} {k b n : Nat} {D : DataW Unit} (h : Six W B f L) (hm : MapB W k b n D) (hg : W.grownBy W' (some b)) : Six W' B f L :=
  ⟨fun j hj => row_gmap hm hg (h.row j hj), h.ne⟩
theorem MapB.gmap {W W' : World} {k b n b2 : Nat} {D : DataW Unit} (h : MapB W k b n D) (hne : b ≠ b2) (hg : W.grownBy W' (some b2)) : MapB W' k b n D := World.ownsMap.kept h hg (by simpa using hne)
/-- the bools of the spots so far -/
def farC (l : List Spt) (k i : Nat) : Value := .bool (if i < k then !okS (spA l i) else false)
def farR (l : List Spt) (k : Nat) : Array Value := mkRow l.length (farC l k)
end Go.Proofs.YtaaadejamjbcbaaGreatDoor
