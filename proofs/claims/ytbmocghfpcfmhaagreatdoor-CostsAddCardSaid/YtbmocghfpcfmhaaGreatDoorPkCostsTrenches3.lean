/- Parts of one proof, joined: Small functions of the reference's surfaces: Turn, Spot, Point, Small, Corner, Triangle, turn: what each returns; nothing that was there is turned. The program's separates: whether a side of a triangle has another triangle on its right; nothing that was there is turned (printed by gen_sep.py). The reference's Triangle, turn, apart, overlap: what each returns; nothing that was there is turned (printed by gen_mrt.py). Valid surfaces: their faces are right; plain facts. Spans of integers, said of integers: sums, products, quotients rounded down and up, square roots. -/
import Derived.Test.YtbmocghfpcfmhaaGreatDoorPkCostsTrenches2
import Derived.Deep.DeepCutAuto
namespace Go.Proofs.YtbmocghfpcfmhaaGreatDoor
open Go Go.RowKit

set_option maxHeartbeats 1000000 in
theorem mrsmall_any (m : Msh) (a : MshA) (w : World) : Calls Tryz.prog 40 #[m.val a] w (RetW (.bool (smB m)) w) := by
  have X := (Own.start w).alloc (m.cells a) 25
  have hr := X.r1
  have E : Hid (smB m = (decide (m.ss.length ≤ 2000) && decide (m.fs.length ≤ 4000))) := hide rfl
  by_cases h1 : m.ss.length ≤ 2000 <;> by_cases h2 : m.fs.length ≤ 4000
  all_goals
    go_enter Tryz.func40, Tryz.ntmps40
    go_wp2
    go_ret
    exact ⟨ret_bool (by rw [E.out]; simp [h1, h2]; try omega), X.1⟩
set_option maxHeartbeats 1000000 in
theorem mrturn_any (a b c : Pnt) (w : World) (ha : a.in) (hb : b.in) (hc : c.in) : Calls Tryz.prog 125 #[a.val, b.val, c.val] w (RetW (.int .i64 (trn a b c)) w) := by
  have X := (((Own.start w).alloc #[.int .i64 a.x, .int .i64 a.y] 27).alloc #[.int .i64 b.x, .int .i64 b.y] 27).alloc #[.int .i64 c.x, .int .i64 c.y] 27
  simp only [World.size_alloc] at X
  have hr := X.r3
  have XB := hide X.1
  obtain ⟨m1, m2⟩ := trn_bd ha hb hc
  obtain ⟨⟨a1, a2⟩, a3, a4⟩ := ha
  obtain ⟨⟨b1, b2⟩, b3, b4⟩ := hb
  obtain ⟨⟨c1, c2⟩, c3, c4⟩ := hc
  have E : Hid (trn a b c = (b.x - a.x) * (c.y - a.y) - (b.y - a.y) * (c.x - a.x)) := hide rfl
  generalize trn a b c = t at *
  have e1 := IntWalk.i64_in (b.x - a.x) (by omega)
  have e2 := IntWalk.i64_in (c.y - a.y) (by omega)
  have e3 := IntWalk.i64_in (b.y - a.y) (by omega)
  have e4 := IntWalk.i64_in (c.x - a.x) (by omega)
  obtain ⟨p, hp⟩ : ∃ p, p = (b.x - a.x) * (c.y - a.y) := ⟨_, rfl⟩
  obtain ⟨q, hq⟩ : ∃ q, q = (b.y - a.y) * (c.x - a.x) := ⟨_, rfl⟩
  rw [← hp, ← hq] at E
  rw [← hp] at m1
  rw [← hq] at m2
  have w1 : IntKind.i64.wrap ((b.x - a.x) * (c.y - a.y)) = p := by rw [← hp]; exact IntWalk.i64_in _ (by omega)
  have w2 : IntKind.i64.wrap ((b.y - a.y) * (c.x - a.x)) = q := by rw [← hq]; exact IntWalk.i64_in _ (by omega)
  have w3 := IntWalk.i64_in (p - q) (by omega)
  clear hp hq X
  go_enter Tryz.func125, Tryz.ntmps125
  go_wp2
  go_ret
  exact ⟨by rw [E.out]; rfl, XB.out⟩
set_option maxHeartbeats 2000000 in
theorem mrspot_any (x y z : Int) (w : World) : Calls Tryz.prog 73 #[.agg #[.int .i64 x, .int .i64 y, .int .i64 z]] w (RetW (.bool (okS ⟨x, y, z⟩)) w) := by
  have X := (Own.start w).alloc #[.int .i64 x, .int .i64 y, .int .i64 z] 60
  have hr := X.r1
  have E : Hid (okS ⟨x, y, z⟩ = (decide (-16777216 ≤ x) && decide (x ≤ 16777216) && decide (-16777216 ≤ y) && decide (y ≤ 16777216) && decide (-4194304 ≤ z) && decide (z ≤ 4194304))) := hide rfl
  have ways : decide (-16777216 ≤ x) = false ∨ (decide (-16777216 ≤ x) = true ∧ decide (x ≤ 16777216) = false) ∨ (decide (-16777216 ≤ x) = true ∧ decide (x ≤ 16777216) = true ∧ decide (-16777216 ≤ y) = false) ∨
      (decide (-16777216 ≤ x) = true ∧ decide (x ≤ 16777216) = true ∧ decide (-16777216 ≤ y) = true ∧ decide (y ≤ 16777216) = false) ∨
      (decide (-16777216 ≤ x) = true ∧ decide (x ≤ 16777216) = true ∧ decide (-16777216 ≤ y) = true ∧ decide (y ≤ 16777216) = true ∧ decide (-4194304 ≤ z) = false) ∨
      (decide (-16777216 ≤ x) = true ∧ decide (x ≤ 16777216) = true ∧ decide (-16777216 ≤ y) = true ∧ decide (y ≤ 16777216) = true ∧ decide (-4194304 ≤ z) = true) := by
    cases decide (-16777216 ≤ x) <;> cases decide (x ≤ 16777216) <;> cases decide (-16777216 ≤ y) <;> cases decide (y ≤ 16777216) <;> cases decide (-4194304 ≤ z) <;> simp
  rcases ways with q1 | ⟨q1, q2⟩ | ⟨q1, q2, q3⟩ | ⟨q1, q2, q3, q4⟩ | ⟨q1, q2, q3, q4, q5⟩ | ⟨q1, q2, q3, q4, q5⟩
  all_goals
    go_enter Tryz.func73, Tryz.ntmps73
    go_wp2
    go_ret
    exact ⟨ret_bool (by rw [E.out]; simp [*]), X.1⟩
set_option maxHeartbeats 1000000 in
theorem mrpoint_any (x y z : Int) (w : World) : Calls Tryz.prog 75 #[.agg #[.int .i64 x, .int .i64 y, .int .i64 z]] w (RetW (.agg #[.int .i64 x, .int .i64 y]) w) := by
  have X := ((Own.start w).alloc #[.int .i64 x, .int .i64 y, .int .i64 z] 60).alloc #[.int .i64 0, .int .i64 0] 27
  rw [World.size_alloc] at X
  have hr := X.r2
  have XB := hide X.1
  go_enter Tryz.func75, Tryz.ntmps75
  go_wp2
  exact bodyPost_ret (v := .agg #[.int .i64 x, .int .i64 y]) (by simp [results, Tryz.results75, go_sem]) rfl ⟨rfl, by have HX := XB.out; have hz := HX.size; go_grown⟩
/-- a corner of a face, counted around -/
def cor (f : Fce) : Nat → Int
  | 0 => f.a
  | 1 => f.b
  | 2 => f.c
  | _ => f.a
set_option maxHeartbeats 2000000 in
theorem mrcorner_any (a b c d : Int) (k : Nat) (w : World) (hk : k ≤ 3) : Calls Tryz.prog 126 #[.agg #[.int .i64 a, .int .i64 b, .int .i64 c, .int .i64 d], .int .i64 k] w (RetW (.int .i64 (cor ⟨a, b, c, d⟩ k)) w) := by
  have X := (Own.start w).alloc #[.int .i64 a, .int .i64 b, .int .i64 c, .int .i64 d] 62
  have hr := X.r1
  have XB := hide X.1
  have s0 : (0 : Int).tmod 3 = 0 := by decide
  have s1 : (1 : Int).tmod 3 = 1 := by decide
  have s2 : (2 : Int).tmod 3 = 2 := by decide
  have s3 : (3 : Int).tmod 3 = 0 := by decide
  obtain rfl | rfl | rfl | rfl : k = 0 ∨ k = 1 ∨ k = 2 ∨ k = 3 := by omega
  · show Calls _ _ #[.agg #[.int .i64 a, .int .i64 b, .int .i64 c, .int .i64 d], .int .i64 0] w (RetW (.int .i64 a) w)
    go_enter Tryz.func126, Tryz.ntmps126
    go_wp2
    go_ret
    exact ⟨rfl, by have HX := XB.out; have hz := HX.size; go_grown⟩
  · show Calls _ _ #[.agg #[.int .i64 a, .int .i64 b, .int .i64 c, .int .i64 d], .int .i64 1] w (RetW (.int .i64 b) w)
    go_enter Tryz.func126, Tryz.ntmps126
    go_wp2
    go_ret
    exact ⟨rfl, by have HX := XB.out; have hz := HX.size; go_grown⟩
  · show Calls _ _ #[.agg #[.int .i64 a, .int .i64 b, .int .i64 c, .int .i64 d], .int .i64 2] w (RetW (.int .i64 c) w)
    go_enter Tryz.func126, Tryz.ntmps126
    go_wp2
    go_ret
    exact ⟨rfl, by have HX := XB.out; have hz := HX.size; go_grown⟩
  · show Calls _ _ #[.agg #[.int .i64 a, .int .i64 b, .int .i64 c, .int .i64 d], .int .i64 3] w (RetW (.int .i64 a) w)
    go_enter Tryz.func126, Tryz.ntmps126
    go_wp2
    go_ret
    exact ⟨rfl, by have HX := XB.out; have hz := HX.size; go_grown⟩
/-- a triangle in a new block -/
def TriPost (t : Tri) (w : World) (e : Ending) (w' : World) : Prop := ∃ g, e = .returned (.slice (some ⟨g, 0, none⟩) 3 3) ∧ Blk w' g 27 t.cells.toArray ∧ w.heap.size ≤ g ∧ Below w.heap.size w w'
end Go.Proofs.YtbmocghfpcfmhaaGreatDoor

namespace Go.Proofs.YtbmocghfpcfmhaaGreatDoor
open Go Go.RowKit

theorem own_two {w W : World} {L : List (Nat × TypeId × Array Value)} {a b : Array Value} {s t : TypeId} (h : Own w W L) : Own w ((W.alloc (.cells a s)).alloc (.cells b t)).drew ((W.heap.size, s, a) :: (W.heap.size + 1, t, b) :: L) := by
  have Z := ((h.alloc a s).alloc b t).drew.swap
  rw [World.size_alloc] at Z
  exact Z
def sdK (t : Tri) : Nat → Pnt × Pnt
  | 0 => (t.p, t.q)
  | 1 => (t.q, t.r)
  | _ => (t.r, t.p)
theorem sep_yes {t u : Tri} {k : Nat} (hk : k < 3) (h : rgt (sdK t k).1 (sdK t k).2 u = true) : sepB t u = true := by
  unfold sepB
  obtain rfl | rfl | rfl : k = 0 ∨ k = 1 ∨ k = 2 := by omega
  all_goals simp only [sdK] at h; simp [h]
theorem sep_no {t u : Tri} (h : ∀ k, k < 3 → rgt (sdK t k).1 (sdK t k).2 u = false) : sepB t u = false := by
  unfold sepB
  have h0 := h 0 (by omega)
  have h1 := h 1 (by omega)
  have h2 := h 2 (by omega)
  simp only [sdK] at h0 h1 h2
  rw [h0, h1, h2]; rfl
theorem rgt_ways (a b : Pnt) (u : Tri) : (rgt a b u = false ∧ decide (trn a b u.p ≤ 0) = false) ∨ (rgt a b u = false ∧ decide (trn a b u.p ≤ 0) = true ∧ decide (trn a b u.q ≤ 0) = false) ∨
    (rgt a b u = false ∧ decide (trn a b u.p ≤ 0) = true ∧ decide (trn a b u.q ≤ 0) = true ∧ decide (trn a b u.r ≤ 0) = false) ∨ (rgt a b u = true ∧ decide (trn a b u.p ≤ 0) = true ∧ decide (trn a b u.q ≤ 0) = true ∧ decide (trn a b u.r ≤ 0) = true) := by
  unfold rgt
  cases decide (trn a b u.p ≤ 0) <;> cases decide (trn a b u.q ≤ 0) <;> cases decide (trn a b u.r ≤ 0) <;> simp
set_option maxRecDepth 100000 in
set_option maxHeartbeats 8000000 in
theorem mssep_any (t u : Tri) (w : World) (ht : t.in) (hu : u.in) : Calls Tryz.prog 104 #[.agg t.cells.toArray, .agg u.cells.toArray] w (RetW (.bool (sepB t u)) w) := by
  have X := ((Own.start w).alloc #[.int .i64 t.p.x, .int .i64 t.p.y, .int .i64 t.q.x, .int .i64 t.q.y, .int .i64 t.r.x, .int .i64 t.r.y] 147).alloc #[.int .i64 u.p.x, .int .i64 u.p.y, .int .i64 u.q.x, .int .i64 u.q.y, .int .i64 u.r.x, .int .i64 u.r.y] 147
  simp only [World.size_alloc] at X
  have HX := hide X
  clear X
  have TN := hide (fun W (a b c : Pnt) (ha : a.in) (hb : b.in) (hc : c.in) => msturn_any a b c W ha hb hc)
  unfold RetW at TN
  have HT := hide ht
  have HU := hide hu
  have YES := hide (fun k hk h => sep_yes (t := t) (u := u) (k := k) hk h)
  have NO := hide (fun h => sep_no (t := t) (u := u) h)
  generalize sepB t u = ans at *
  clear ht hu
  go_enter Tryz.func104, Tryz.ntmps104
  go_wp2
  go_loopw [8] (fun v8 wr => ∃ k : Nat, k ≤ 3 ∧ v8 = .int .i64 k ∧ Hid (Own w wr [(w.heap.size + 1, 147, #[.int .i64 u.p.x, .int .i64 u.p.y, .int .i64 u.q.x, .int .i64 u.q.y, .int .i64 u.r.x, .int .i64 u.r.y]), (w.heap.size, 147, #[.int .i64 t.p.x, .int .i64 t.p.y, .int .i64 t.q.x, .int .i64 t.q.y, .int .i64 t.r.x, .int .i64 t.r.y])]) ∧
    Hid (∀ j, j < k → rgt (sdK t j).1 (sdK t j).2 u = false)) (fun v8 _ => 3 - (intOf v8).toNat)
  case atStart => exact ⟨0, by omega, rfl, HX, hide (fun j hj => by omega)⟩
  case round =>
    obtain ⟨k, hk, rfl, HO, HN⟩ := hrel
    by_cases h3 : k = 3
    · subst h3
      have E := hide (NO.out HN.out)
      go_wp2
      go_ret
      exact ⟨ret_bool E.out.symm, HO.out.1⟩
    obtain rfl | rfl | rfl : k = 0 ∨ k = 1 ∨ k = 2 := by omega
    · clear hk h3
      have hr := HO.out.r2
      have HNK := hide (fun (h : rgt t.p t.q u = false) j (hj : j < 0 + 1) => (show rgt (sdK t j).1 (sdK t j).2 u = false by
        by_cases e : j = 0
        · subst e; exact h
        · exact HN.out j (by omega)))
      have YK := hide (fun (h : rgt t.p t.q u = true) => YES.out 0 (by omega) h)
      have IA : Pnt.in t.p := HT.out.1
      have IB : Pnt.in t.q := HT.out.2.1
      have RW := rgt_ways t.p t.q u
      have s1 : IntKind.i64.wrap 1 = 1 := by decide
      have s2 : (1 : Int).tmod 3 = 1 := by decide
      have n1 : ¬ (w.heap.size = w.heap.size + 1) := by omega
      have hz : w.heap.size + 1 < wr.heap.size := hr.1.2.2
      go_upto_region 4 with (fail)
      go_cut [6, 7] (fun v6 v7 wx => ∃ b6 b7 : Nat, v6 = .pointer (some ⟨b6, 0, none⟩) ∧ v7 = .pointer (some ⟨b7, 0, none⟩) ∧ Hid (Own w wx [(b6, 27, #[.int .i64 t.p.x, .int .i64 t.p.y]), (b7, 27, #[.int .i64 t.q.x, .int .i64 t.q.y]), (w.heap.size + 1, 147, #[.int .i64 u.p.x, .int .i64 u.p.y, .int .i64 u.q.x, .int .i64 u.q.y, .int .i64 u.r.x, .int .i64 u.r.y]), (w.heap.size, 147, #[.int .i64 t.p.x, .int .i64 t.p.y, .int .i64 t.q.x, .int .i64 t.q.y, .int .i64 t.r.x, .int .i64 t.r.y])]))
      case first =>
        go_region_held3 (fun w' => w'.cell? ⟨w.heap.size, 0, none⟩ = some (.int .i64 t.p.x) ∧ w'.cell? ⟨w.heap.size, 1, none⟩ = some (.int .i64 t.p.y) ∧ w'.cell? ⟨w.heap.size, 2, none⟩ = some (.int .i64 t.q.x) ∧ w'.cell? ⟨w.heap.size, 3, none⟩ = some (.int .i64 t.q.y)) (go_keep) (fail)
        all_goals
          go_wp2_with fail
          go_meet
          refine ⟨_, _, rfl, rfl, ?_⟩
          first | exact hide (own_two HO.out) | exact hide (own_two HO.out).swap
      case rest =>
        obtain ⟨b6, b7, rfl, rfl, HO⟩ := hcut
        clear hr hz n1 s1 s2
        have hr := HO.out.r4
        rcases RW with ⟨r1, t1⟩ | ⟨r1, t1, t2⟩ | ⟨r1, t1, t2, t3⟩ | ⟨r1, t1, t2, t3⟩
        · have HN2 := hide (HNK.out r1)
          clear r1 HNK YK HN
          go_wp2_with fail
          refine (TN.out _ t.p t.q u.p IA IB HU.out.1).mono ?_
          rintro e w1 ⟨rfl, hb⟩
          replace HO := hide (HO.out.to hb)
          clear hr hb
          have hr := HO.out.r4
          go_wp2
          go_roundw
          case rel => exact ⟨0 + 1, by omega, rfl, hide HO.out.tail.tail, HN2⟩
          case measure => simp [intOf]
        · have HN2 := hide (HNK.out r1)
          clear r1 HNK YK HN
          go_wp2_with fail
          refine (TN.out _ t.p t.q u.p IA IB HU.out.1).mono ?_
          rintro e w1 ⟨rfl, hb⟩
          replace HO := hide (HO.out.to hb)
          clear hr hb
          have hr := HO.out.r4
          go_wp2_with fail
          refine (TN.out _ t.p t.q u.q IA IB HU.out.2.1).mono ?_
          rintro e w1 ⟨rfl, hb⟩
          replace HO := hide (HO.out.to hb)
          clear hr hb
          have hr := HO.out.r4
          go_wp2
          go_roundw
          case rel => exact ⟨0 + 1, by omega, rfl, hide HO.out.tail.tail, HN2⟩
          case measure => simp [intOf]
        · have HN2 := hide (HNK.out r1)
          clear r1 HNK YK HN
          go_wp2_with fail
          refine (TN.out _ t.p t.q u.p IA IB HU.out.1).mono ?_
          rintro e w1 ⟨rfl, hb⟩
          replace HO := hide (HO.out.to hb)
          clear hr hb
          have hr := HO.out.r4
          go_wp2_with fail
          refine (TN.out _ t.p t.q u.q IA IB HU.out.2.1).mono ?_
          rintro e w1 ⟨rfl, hb⟩
          replace HO := hide (HO.out.to hb)
          clear hr hb
          have hr := HO.out.r4
          go_wp2_with fail
          refine (TN.out _ t.p t.q u.r IA IB HU.out.2.2).mono ?_
          rintro e w1 ⟨rfl, hb⟩
          replace HO := hide (HO.out.to hb)
          clear hr hb
          have hr := HO.out.r4
          go_wp2
          go_roundw
          case rel => exact ⟨0 + 1, by omega, rfl, hide HO.out.tail.tail, HN2⟩
          case measure => simp [intOf]
        · have E := hide (YK.out r1)
          clear r1 HNK YK HN
          go_wp2_with fail
          refine (TN.out _ t.p t.q u.p IA IB HU.out.1).mono ?_
          rintro e w1 ⟨rfl, hb⟩
          replace HO := hide (HO.out.to hb)
          clear hr hb
          have hr := HO.out.r4
          go_wp2_with fail
          refine (TN.out _ t.p t.q u.q IA IB HU.out.2.1).mono ?_
          rintro e w1 ⟨rfl, hb⟩
          replace HO := hide (HO.out.to hb)
          clear hr hb
          have hr := HO.out.r4
          go_wp2_with fail
          refine (TN.out _ t.p t.q u.r IA IB HU.out.2.2).mono ?_
          rintro e w1 ⟨rfl, hb⟩
          replace HO := hide (HO.out.to hb)
          clear hr hb
          have hr := HO.out.r4
          go_wp2
          go_ret
          exact ⟨ret_bool E.out.symm, HO.out.1⟩
    · clear hk h3
      have hr := HO.out.r2
      have HNK := hide (fun (h : rgt t.q t.r u = false) j (hj : j < 1 + 1) => (show rgt (sdK t j).1 (sdK t j).2 u = false by
        by_cases e : j = 1
        · subst e; exact h
        · exact HN.out j (by omega)))
      have YK := hide (fun (h : rgt t.q t.r u = true) => YES.out 1 (by omega) h)
      have IA : Pnt.in t.q := HT.out.2.1
      have IB : Pnt.in t.r := HT.out.2.2
      have RW := rgt_ways t.q t.r u
      have s1 : IntKind.i64.wrap 2 = 2 := by decide
      have s2 : (2 : Int).tmod 3 = 2 := by decide
      have n1 : ¬ (w.heap.size = w.heap.size + 1) := by omega
      have hz : w.heap.size + 1 < wr.heap.size := hr.1.2.2
      go_upto_region 4 with (fail)
      go_cut [6, 7] (fun v6 v7 wx => ∃ b6 b7 : Nat, v6 = .pointer (some ⟨b6, 0, none⟩) ∧ v7 = .pointer (some ⟨b7, 0, none⟩) ∧ Hid (Own w wx [(b6, 27, #[.int .i64 t.q.x, .int .i64 t.q.y]), (b7, 27, #[.int .i64 t.r.x, .int .i64 t.r.y]), (w.heap.size + 1, 147, #[.int .i64 u.p.x, .int .i64 u.p.y, .int .i64 u.q.x, .int .i64 u.q.y, .int .i64 u.r.x, .int .i64 u.r.y]), (w.heap.size, 147, #[.int .i64 t.p.x, .int .i64 t.p.y, .int .i64 t.q.x, .int .i64 t.q.y, .int .i64 t.r.x, .int .i64 t.r.y])]))
      case first =>
        go_region_held3 (fun w' => w'.cell? ⟨w.heap.size, 2, none⟩ = some (.int .i64 t.q.x) ∧ w'.cell? ⟨w.heap.size, 3, none⟩ = some (.int .i64 t.q.y) ∧ w'.cell? ⟨w.heap.size, 4, none⟩ = some (.int .i64 t.r.x) ∧ w'.cell? ⟨w.heap.size, 5, none⟩ = some (.int .i64 t.r.y)) (go_keep) (fail)
        all_goals
          go_wp2_with fail
          go_meet
          refine ⟨_, _, rfl, rfl, ?_⟩
          first | exact hide (own_two HO.out) | exact hide (own_two HO.out).swap
      case rest =>
        obtain ⟨b6, b7, rfl, rfl, HO⟩ := hcut
        clear hr hz n1 s1 s2
        have hr := HO.out.r4
        rcases RW with ⟨r1, t1⟩ | ⟨r1, t1, t2⟩ | ⟨r1, t1, t2, t3⟩ | ⟨r1, t1, t2, t3⟩
        · have HN2 := hide (HNK.out r1)
          clear r1 HNK YK HN
          go_wp2_with fail
          refine (TN.out _ t.q t.r u.p IA IB HU.out.1).mono ?_
          rintro e w1 ⟨rfl, hb⟩
          replace HO := hide (HO.out.to hb)
          clear hr hb
          have hr := HO.out.r4
          go_wp2
          go_roundw
          case rel => exact ⟨1 + 1, by omega, rfl, hide HO.out.tail.tail, HN2⟩
          case measure => simp [intOf]
        · have HN2 := hide (HNK.out r1)
          clear r1 HNK YK HN
          go_wp2_with fail
          refine (TN.out _ t.q t.r u.p IA IB HU.out.1).mono ?_
          rintro e w1 ⟨rfl, hb⟩
          replace HO := hide (HO.out.to hb)
          clear hr hb
          have hr := HO.out.r4
          go_wp2_with fail
          refine (TN.out _ t.q t.r u.q IA IB HU.out.2.1).mono ?_
          rintro e w1 ⟨rfl, hb⟩
          replace HO := hide (HO.out.to hb)
          clear hr hb
          have hr := HO.out.r4
          go_wp2
          go_roundw
          case rel => exact ⟨1 + 1, by omega, rfl, hide HO.out.tail.tail, HN2⟩
          case measure => simp [intOf]
        · have HN2 := hide (HNK.out r1)
          clear r1 HNK YK HN
          go_wp2_with fail
          refine (TN.out _ t.q t.r u.p IA IB HU.out.1).mono ?_
          rintro e w1 ⟨rfl, hb⟩
          replace HO := hide (HO.out.to hb)
          clear hr hb
          have hr := HO.out.r4
          go_wp2_with fail
          refine (TN.out _ t.q t.r u.q IA IB HU.out.2.1).mono ?_
          rintro e w1 ⟨rfl, hb⟩
          replace HO := hide (HO.out.to hb)
          clear hr hb
          have hr := HO.out.r4
          go_wp2_with fail
          refine (TN.out _ t.q t.r u.r IA IB HU.out.2.2).mono ?_
          rintro e w1 ⟨rfl, hb⟩
          replace HO := hide (HO.out.to hb)
          clear hr hb
          have hr := HO.out.r4
          go_wp2
          go_roundw
          case rel => exact ⟨1 + 1, by omega, rfl, hide HO.out.tail.tail, HN2⟩
          case measure => simp [intOf]
        · have E := hide (YK.out r1)
          clear r1 HNK YK HN
          go_wp2_with fail
          refine (TN.out _ t.q t.r u.p IA IB HU.out.1).mono ?_
          rintro e w1 ⟨rfl, hb⟩
          replace HO := hide (HO.out.to hb)
          clear hr hb
          have hr := HO.out.r4
          go_wp2_with fail
          refine (TN.out _ t.q t.r u.q IA IB HU.out.2.1).mono ?_
          rintro e w1 ⟨rfl, hb⟩
          replace HO := hide (HO.out.to hb)
          clear hr hb
          have hr := HO.out.r4
          go_wp2_with fail
          refine (TN.out _ t.q t.r u.r IA IB HU.out.2.2).mono ?_
          rintro e w1 ⟨rfl, hb⟩
          replace HO := hide (HO.out.to hb)
          clear hr hb
          have hr := HO.out.r4
          go_wp2
          go_ret
          exact ⟨ret_bool E.out.symm, HO.out.1⟩
    · clear hk h3
      have hr := HO.out.r2
      have HNK := hide (fun (h : rgt t.r t.p u = false) j (hj : j < 2 + 1) => (show rgt (sdK t j).1 (sdK t j).2 u = false by
        by_cases e : j = 2
        · subst e; exact h
        · exact HN.out j (by omega)))
      have YK := hide (fun (h : rgt t.r t.p u = true) => YES.out 2 (by omega) h)
      have IA : Pnt.in t.r := HT.out.2.2
      have IB : Pnt.in t.p := HT.out.1
      have RW := rgt_ways t.r t.p u
      have s1 : IntKind.i64.wrap 3 = 3 := by decide
      have s2 : (3 : Int).tmod 3 = 0 := by decide
      have n1 : ¬ (w.heap.size = w.heap.size + 1) := by omega
      have hz : w.heap.size + 1 < wr.heap.size := hr.1.2.2
      go_upto_region 4 with (fail)
      go_cut [6, 7] (fun v6 v7 wx => ∃ b6 b7 : Nat, v6 = .pointer (some ⟨b6, 0, none⟩) ∧ v7 = .pointer (some ⟨b7, 0, none⟩) ∧ Hid (Own w wx [(b6, 27, #[.int .i64 t.r.x, .int .i64 t.r.y]), (b7, 27, #[.int .i64 t.p.x, .int .i64 t.p.y]), (w.heap.size + 1, 147, #[.int .i64 u.p.x, .int .i64 u.p.y, .int .i64 u.q.x, .int .i64 u.q.y, .int .i64 u.r.x, .int .i64 u.r.y]), (w.heap.size, 147, #[.int .i64 t.p.x, .int .i64 t.p.y, .int .i64 t.q.x, .int .i64 t.q.y, .int .i64 t.r.x, .int .i64 t.r.y])]))
      case first =>
        go_region_held3 (fun w' => w'.cell? ⟨w.heap.size, 0, none⟩ = some (.int .i64 t.p.x) ∧ w'.cell? ⟨w.heap.size, 1, none⟩ = some (.int .i64 t.p.y) ∧ w'.cell? ⟨w.heap.size, 4, none⟩ = some (.int .i64 t.r.x) ∧ w'.cell? ⟨w.heap.size, 5, none⟩ = some (.int .i64 t.r.y)) (go_keep) (fail)
        all_goals
          go_wp2_with fail
          go_meet
          refine ⟨_, _, rfl, rfl, ?_⟩
          first | exact hide (own_two HO.out) | exact hide (own_two HO.out).swap
      case rest =>
        obtain ⟨b6, b7, rfl, rfl, HO⟩ := hcut
        clear hr hz n1 s1 s2
        have hr := HO.out.r4
        rcases RW with ⟨r1, t1⟩ | ⟨r1, t1, t2⟩ | ⟨r1, t1, t2, t3⟩ | ⟨r1, t1, t2, t3⟩
        · have HN2 := hide (HNK.out r1)
          clear r1 HNK YK HN
          go_wp2_with fail
          refine (TN.out _ t.r t.p u.p IA IB HU.out.1).mono ?_
          rintro e w1 ⟨rfl, hb⟩
          replace HO := hide (HO.out.to hb)
          clear hr hb
          have hr := HO.out.r4
          go_wp2
          go_roundw
          case rel => exact ⟨2 + 1, by omega, rfl, hide HO.out.tail.tail, HN2⟩
          case measure => simp [intOf]
        · have HN2 := hide (HNK.out r1)
          clear r1 HNK YK HN
          go_wp2_with fail
          refine (TN.out _ t.r t.p u.p IA IB HU.out.1).mono ?_
          rintro e w1 ⟨rfl, hb⟩
          replace HO := hide (HO.out.to hb)
          clear hr hb
          have hr := HO.out.r4
          go_wp2_with fail
          refine (TN.out _ t.r t.p u.q IA IB HU.out.2.1).mono ?_
          rintro e w1 ⟨rfl, hb⟩
          replace HO := hide (HO.out.to hb)
          clear hr hb
          have hr := HO.out.r4
          go_wp2
          go_roundw
          case rel => exact ⟨2 + 1, by omega, rfl, hide HO.out.tail.tail, HN2⟩
          case measure => simp [intOf]
        · have HN2 := hide (HNK.out r1)
          clear r1 HNK YK HN
          go_wp2_with fail
          refine (TN.out _ t.r t.p u.p IA IB HU.out.1).mono ?_
          rintro e w1 ⟨rfl, hb⟩
          replace HO := hide (HO.out.to hb)
          clear hr hb
          have hr := HO.out.r4
          go_wp2_with fail
          refine (TN.out _ t.r t.p u.q IA IB HU.out.2.1).mono ?_
          rintro e w1 ⟨rfl, hb⟩
          replace HO := hide (HO.out.to hb)
          clear hr hb
          have hr := HO.out.r4
          go_wp2_with fail
          refine (TN.out _ t.r t.p u.r IA IB HU.out.2.2).mono ?_
          rintro e w1 ⟨rfl, hb⟩
          replace HO := hide (HO.out.to hb)
          clear hr hb
          have hr := HO.out.r4
          go_wp2
          go_roundw
          case rel => exact ⟨2 + 1, by omega, rfl, hide HO.out.tail.tail, HN2⟩
          case measure => simp [intOf]
        · have E := hide (YK.out r1)
          clear r1 HNK YK HN
          go_wp2_with fail
          refine (TN.out _ t.r t.p u.p IA IB HU.out.1).mono ?_
          rintro e w1 ⟨rfl, hb⟩
          replace HO := hide (HO.out.to hb)
          clear hr hb
          have hr := HO.out.r4
          go_wp2_with fail
          refine (TN.out _ t.r t.p u.q IA IB HU.out.2.1).mono ?_
          rintro e w1 ⟨rfl, hb⟩
          replace HO := hide (HO.out.to hb)
          clear hr hb
          have hr := HO.out.r4
          go_wp2_with fail
          refine (TN.out _ t.r t.p u.r IA IB HU.out.2.2).mono ?_
          rintro e w1 ⟨rfl, hb⟩
          replace HO := hide (HO.out.to hb)
          clear hr hb
          have hr := HO.out.r4
          go_wp2
          go_ret
          exact ⟨ret_bool E.out.symm, HO.out.1⟩
end Go.Proofs.YtbmocghfpcfmhaaGreatDoor

namespace Go.Proofs.YtbmocghfpcfmhaaGreatDoor
open Go Go.RowKit

theorem Own.cons {w W : World} {L : List (Nat × TypeId × Array Value)} {g : Nat} {t : TypeId} {cs : Array Value} (h : Own w W L) (hB : Blk W g t cs) : Own w W ((g, t, cs) :: L) :=
  ⟨h.1, fun x hx => by
    rcases List.mem_cons.1 hx with rfl | hx
    · exact hB
    · exact h.2 x hx⟩
/-- a triangle lies in a block -/
structure TriB (w : World) (b : Nat) (t : Tri) : Prop where
  lt : b < w.heap.size
  c0 : w.cell? ⟨b, 0, none⟩ = some (.int .i64 t.p.x)
  c1 : w.cell? ⟨b, 1, none⟩ = some (.int .i64 t.p.y)
  c2 : w.cell? ⟨b, 2, none⟩ = some (.int .i64 t.q.x)
  c3 : w.cell? ⟨b, 3, none⟩ = some (.int .i64 t.q.y)
  c4 : w.cell? ⟨b, 4, none⟩ = some (.int .i64 t.r.x)
  c5 : w.cell? ⟨b, 5, none⟩ = some (.int .i64 t.r.y)
theorem TriB.below {w w' : World} {b : Nat} {t : Tri} (h : TriB w b t) (hb : Below w.heap.size w w') : TriB w' b t :=
  have k := fun (i : Nat) => hb.cell (p := ⟨b, i, none⟩) h.lt
  ⟨Nat.lt_of_lt_of_le h.lt hb.size, (k _).trans h.c0, (k _).trans h.c1, (k _).trans h.c2, (k _).trans h.c3, (k _).trans h.c4, (k _).trans h.c5⟩
theorem TriB.of {w : World} {b : Nat} {t : Tri} (h : Blk w b 27 t.cells.toArray) : TriB w b t :=
  ⟨h.lt, h.cell _, h.cell _, h.cell _, h.cell _, h.cell _, h.cell _⟩
set_option maxRecDepth 100000 in
set_option maxHeartbeats 1000000 in
theorem mrtri_any (m : Msh) (a : MshA) (fa fb fc : Nat) (fk : Int) (w : World) (hm : MshSl w m a) (ha : fa < m.ss.length) (hb : fb < m.ss.length) (hc : fc < m.ss.length) :
    Calls Tryz.prog 124 #[m.val a, .agg #[.int .i64 fa, .int .i64 fb, .int .i64 fc, .int .i64 fk]] w (TriPost (triA m.ss ⟨fa, fb, fc, fk⟩) w) := by
  obtain ⟨ss, fs⟩ := m
  obtain ⟨A1, c1, A2, c2⟩ := a
  have ha' : fa < ss.length := ha
  have hb' : fb < ss.length := hb
  have hc' : fc < ss.length := hc
  have hlen : ss.length ≤ 9223372036854775807 := hm.1.1.1
  obtain ⟨b, off, e, hbl, hat⟩ := hm.1.2 (by show 0 < ss.length; omega)
  obtain rfl : A1 = some ⟨b, off, none⟩ := e
  have X := ((Own.start w).alloc #[.slice (some ⟨b, off, none⟩) ss.length c1, .slice A2 fs.length c2] 25).alloc #[.int .i64 fa, .int .i64 fb, .int .i64 fc, .int .i64 fk] 62
  rw [World.size_alloc] at X
  have ET : Hid (triA ss ⟨fa, fb, fc, fk⟩ = ⟨(ss[fa]).pt, (ss[fb]).pt, (ss[fc]).pt⟩) := hide (by simp [triA, spA, ha', hb', hc'])
  have KC := hide (fun W' (h : Below w.heap.size w W') => (⟨
    (h.cell (p := ⟨b, _, none⟩) hbl).trans (hat fa ha').1,
    (h.cell (p := ⟨b, _, none⟩) hbl).trans (hat fa ha').2.1,
    (h.cell (p := ⟨b, _, none⟩) hbl).trans (hat fa ha').2.2,
    (h.cell (p := ⟨b, _, none⟩) hbl).trans (hat fb hb').1,
    (h.cell (p := ⟨b, _, none⟩) hbl).trans (hat fb hb').2.1,
    (h.cell (p := ⟨b, _, none⟩) hbl).trans (hat fb hb').2.2,
    (h.cell (p := ⟨b, _, none⟩) hbl).trans (hat fc hc').1,
    (h.cell (p := ⟨b, _, none⟩) hbl).trans (hat fc hc').2.1,
    (h.cell (p := ⟨b, _, none⟩) hbl).trans (hat fc hc').2.2⟩ :
    W'.cell? ⟨b, off + fa * 3, none⟩ = some (.int .i64 (ss[fa]).x) ∧ W'.cell? ⟨b, off + fa * 3 + 1, none⟩ = some (.int .i64 (ss[fa]).y) ∧ W'.cell? ⟨b, off + fa * 3 + 2, none⟩ = some (.int .i64 (ss[fa]).z) ∧ W'.cell? ⟨b, off + fb * 3, none⟩ = some (.int .i64 (ss[fb]).x) ∧ W'.cell? ⟨b, off + fb * 3 + 1, none⟩ = some (.int .i64 (ss[fb]).y) ∧ W'.cell? ⟨b, off + fb * 3 + 2, none⟩ = some (.int .i64 (ss[fb]).z) ∧ W'.cell? ⟨b, off + fc * 3, none⟩ = some (.int .i64 (ss[fc]).x) ∧ W'.cell? ⟨b, off + fc * 3 + 1, none⟩ = some (.int .i64 (ss[fc]).y) ∧ W'.cell? ⟨b, off + fc * 3 + 2, none⟩ = some (.int .i64 (ss[fc]).z)))
  have PN := hide (fun (x y z : Int) W => mrpoint_any x y z W)
  unfold RetW at PN
  show Calls _ _ #[.agg #[.slice (some ⟨b, off, none⟩) ss.length c1, .slice A2 fs.length c2], _] w (TriPost (triA ss ⟨fa, fb, fc, fk⟩) w)
  have ga : (fa : Int) < (ss.length : Int) := by omega
  have gb : (fb : Int) < (ss.length : Int) := by omega
  have gc : (fc : Int) < (ss.length : Int) := by omega
  have za : (0 : Int) ≤ (fa : Int) := by omega
  have zb : (0 : Int) ≤ (fb : Int) := by omega
  have zc : (0 : Int) ≤ (fc : Int) := by omega
  rw [ET.out]
  generalize ss[fa] = sa at *
  generalize ss[fb] = sb at *
  generalize ss[fc] = sc at *
  clear hat hm ET ha hb hc
  go_enter Tryz.func124, Tryz.ntmps124
  go_wp2
  have KW := hide X.1
  generalize (w.alloc (.cells #[.slice (some ⟨b, off, none⟩) ss.length c1, .slice A2 fs.length c2] 25)).alloc (.cells #[.int .i64 fa, .int .i64 fb, .int .i64 fc, .int .i64 fk] 62) = W at *
  have hr := X.r2
  have HX := hide X
  obtain ⟨q0, q1, q2, q3, q4, q5, q6, q7, q8⟩ := KC.out _ X.1
  clear X
  go_region_held3 (fun w' => w'.cell? ⟨w.heap.size, 0, none⟩ = some (.slice (some ⟨b, off, none⟩) ss.length c1) ∧ w'.cell? ⟨w.heap.size + 1, 0, none⟩ = some (.int .i64 fa) ∧ w'.cell? ⟨w.heap.size + 1, 1, none⟩ = some (.int .i64 fb) ∧ w'.cell? ⟨w.heap.size + 1, 2, none⟩ = some (.int .i64 fc) ∧ w'.cell? ⟨b, off + fa * 3, none⟩ = some (.int .i64 sa.x) ∧ w'.cell? ⟨b, off + fa * 3 + 1, none⟩ = some (.int .i64 sa.y) ∧ w'.cell? ⟨b, off + fa * 3 + 2, none⟩ = some (.int .i64 sa.z) ∧ w'.cell? ⟨b, off + fb * 3, none⟩ = some (.int .i64 sb.x) ∧ w'.cell? ⟨b, off + fb * 3 + 1, none⟩ = some (.int .i64 sb.y) ∧ w'.cell? ⟨b, off + fb * 3 + 2, none⟩ = some (.int .i64 sb.z) ∧ w'.cell? ⟨b, off + fc * 3, none⟩ = some (.int .i64 sc.x) ∧ w'.cell? ⟨b, off + fc * 3 + 1, none⟩ = some (.int .i64 sc.y) ∧ w'.cell? ⟨b, off + fc * 3 + 2, none⟩ = some (.int .i64 sc.z)) (go_keep)
    (first
      | (go_at_call 75; ((with_reducible refine Calls.mono (PN.out _ _ _ _) ?_); rintro e w1 ⟨rfl, hb⟩); have hw := below_go (show Below W.heap.size W _ from by go_grown) hb; have hr2 := (HX.out.to hw).r2; obtain ⟨p0, p1, p2, p3, p4, p5, p6, p7, p8⟩ := KC.out _ (HX.out.to hw).1))
  all_goals
    have XB := hide (HX.out.to hw).1
    go_wp2
    go_ret
    exact ⟨_, rfl, Blk.new _ _ _, XB.out.size, by have HX := XB.out; have hz := HX.size; go_grown⟩
set_option maxRecDepth 100000 in
set_option maxHeartbeats 1000000 in
theorem mrtrn_any (m : Msh) (a : MshA) (fa fb fc : Nat) (fk : Int) (w : World) (hm : MshSl w m a) (ha : fa < m.ss.length) (hb : fb < m.ss.length) (hc : fc < m.ss.length) (T : Tri) (eT : triA m.ss ⟨fa, fb, fc, fk⟩ = T) (hin : T.in) :
    Calls Tryz.prog 77 #[m.val a, .agg #[.int .i64 fa, .int .i64 fb, .int .i64 fc, .int .i64 fk]] w (RetW (.int .i64 (trn T.p T.q T.r)) w) := by
  have TR := hide (fun W h => mrtri_any m a fa fb fc fk W h ha hb hc)
  rw [eT] at TR
  unfold TriPost at TR
  have TN := hide (fun W => mrturn_any T.p T.q T.r W hin.1 hin.2.1 hin.2.2)
  unfold RetW at TN
  have HM := hide hm
  obtain ⟨ss, fs⟩ := m
  obtain ⟨A1, c1, A2, c2⟩ := a
  generalize trn T.p T.q T.r = n at *
  have X := ((Own.start w).alloc #[.slice A1 ss.length c1, .slice A2 fs.length c2] 25).alloc #[.int .i64 fa, .int .i64 fb, .int .i64 fc, .int .i64 fk] 62
  rw [World.size_alloc] at X
  have hr := X.r2
  clear hm ha hb hc eT hin
  show Calls _ _ #[.agg #[.slice A1 ss.length c1, .slice A2 fs.length c2], _] w _
  go_enter Tryz.func77, Tryz.ntmps77
  go_wp2_with fail
  refine (TR.out _ (HM.out.below X.1)).mono ?_
  rintro e w1 ⟨g, rfl, hB, -, hb⟩
  have HX := hide ((X.to hb).cons hB)
  clear hb hr X hB TR HM
  have hr := HX.out.r3
  go_wp2_with fail
  have C1 := fun x : OwnW w [(g, 27, #[.int .i64 T.p.x, .int .i64 T.p.y, .int .i64 T.q.x, .int .i64 T.q.y, .int .i64 T.r.x, .int .i64 T.r.y]), (w.heap.size + 1, 62, #[.int .i64 fa, .int .i64 fb, .int .i64 fc, .int .i64 fk]), (w.heap.size, 25, #[.slice A1 ss.length c1, .slice A2 fs.length c2])] => x.own.r1
  have NE : Nonempty (OwnW w [(g, 27, #[.int .i64 T.p.x, .int .i64 T.p.y, .int .i64 T.q.x, .int .i64 T.q.y, .int .i64 T.r.x, .int .i64 T.r.y]), (w.heap.size + 1, 62, #[.int .i64 fa, .int .i64 fb, .int .i64 fc, .int .i64 fk]), (w.heap.size, 25, #[.slice A1 ss.length c1, .slice A2 fs.length c2])]) := ⟨⟨_, HX.out⟩⟩
  refine wp_region_own (w := w) (L := [(g, 27, #[.int .i64 T.p.x, .int .i64 T.p.y, .int .i64 T.q.x, .int .i64 T.q.y, .int .i64 T.r.x, .int .i64 T.r.y]), (w.heap.size + 1, 62, #[.int .i64 fa, .int .i64 fb, .int .i64 fc, .int .i64 fk]), (w.heap.size, 25, #[.slice A1 ss.length c1, .slice A2 fs.length c2])]) (by kernel_rfl) (by kernel_rfl) HX.out ?_
  repeat (go_big_quiet_step ((rename_i x; exact own_call (TN.out _))))
  refine wpQuiet_nil ?_
  rintro _ ⟨⟨W, HX⟩, rfl⟩
  go_wp2
  go_ret
  exact ⟨rfl, HX.1⟩
end Go.Proofs.YtbmocghfpcfmhaaGreatDoor

namespace Go.Proofs.YtbmocghfpcfmhaaGreatDoor
open Go Go.RowKit

theorem trn_bd2 {a b c : Pnt} (ha : a.in) (hb : b.in) (hc : c.in) : -2251799813685248 ≤ trn a b c ∧ trn a b c ≤ 2251799813685248 := by
  obtain ⟨h1, h2⟩ := trn_bd ha hb hc
  unfold trn
  omega
/-- the faces of a valid surface are right -/
theorem vM_face {ss : List Spt} {fs : List Fce} (h : vM ⟨ss, fs⟩ = true) : ∀ i, i < fs.length → crB ss (fcA fs i) = true ∧ posB ss (fcA fs i) = true := by
  intro i hi
  simp only [vM, Bool.and_eq_true, decide_eq_true_eq] at h
  obtain ⟨_, _, _, h3, h4, _⟩ := h
  have k3 : ¬ i ∈ fin3 ss fs fs.length := by
    rw [show fin3 ss fs fs.length = [] from h3]; simp
  have k4 : ¬ i ∈ fin4 ss fs fs.length := by
    rw [show fin4 ss fs fs.length = [] from h4]; simp
  have c : crB ss (fcA fs i) = true := by
    cases e : crB ss (fcA fs i) with
    | true => rfl
    | false => exact absurd (by simp [fin3, hi, e]) k3
  refine ⟨c, ?_⟩
  cases e : posB ss (fcA fs i) with
  | true => rfl
  | false => exact absurd (by simp [fin4, hi, e, c]) k4
theorem vM_small {ss : List Spt} {fs : List Fce} (h : vM ⟨ss, fs⟩ = true) : ss.length ≤ 2000 ∧ fs.length ≤ 4000 := by
  simp only [vM, smB, Bool.and_eq_true, decide_eq_true_eq] at h
  exact h.1
end Go.Proofs.YtbmocghfpcfmhaaGreatDoor

namespace Go.Proofs.YtbmocghfpcfmhaaGreatDoor

structure Sp where
  lo : Int
  hi : Int
abbrev Sp.val (a : Sp) : Value := .agg #[.int .i64 a.lo, .int .i64 a.hi]
def Sp.zero : Sp := ⟨0, 0⟩
def fitB (n : Int) : Bool := decide (-72057594037927936 ≤ n ∧ n ≤ 72057594037927936)
theorem fitB_iff {n : Int} : fitB n = true ↔ -72057594037927936 ≤ n ∧ n ≤ 72057594037927936 := by simp [fitB]
theorem fitB_not {n : Int} : fitB n = false ↔ n < -72057594037927936 ∨ 72057594037927936 < n := by simp [fitB]; omega
def vB (a : Sp) : Bool := decide (a.lo ≤ a.hi) && fitB a.lo && fitB a.hi
theorem vB_iff {a : Sp} : vB a = true ↔ a.lo ≤ a.hi ∧ -72057594037927936 ≤ a.lo ∧ a.hi ≤ 72057594037927936 := by
  simp only [vB, Bool.and_eq_true, decide_eq_true_eq, fitB_iff]; omega
def resE (lo hi : Int) : Int := if fitB lo = true ∧ fitB hi = true then 0 else 5
def resS (lo hi : Int) : Sp := if fitB lo = true ∧ fitB hi = true then ⟨lo, hi⟩ else Sp.zero
/-- a quotient rounded down, for any divisor that is not 0; and up -/
def dn (n d : Int) : Int := if d < 0 then (-n) / (-d) else n / d
def up (n d : Int) : Int := -dn (-n) d
theorem dn_bd {n d : Int} (hd : 0 < d) : dn n d * d ≤ n ∧ n < (dn n d + 1) * d := by
  unfold dn
  rw [if_neg (by omega)]
  have h := Int.mul_ediv_add_emod n d
  have h1 := Int.emod_nonneg n (by omega : d ≠ 0)
  have h2 := Int.emod_lt_of_pos n hd
  have e : (n / d + 1) * d = d * (n / d) + d := by rw [Int.add_mul, Int.mul_comm]; omega
  have e2 : n / d * d = d * (n / d) := Int.mul_comm _ _
  omega
theorem dn_neg (n d : Int) (hd : d < 0) : dn n d = dn (-n) (-d) := by
  unfold dn; rw [if_pos hd, if_neg (by omega)]
theorem dn_uniq {n d q : Int} (hd : 0 < d) (h1 : q * d ≤ n) (h2 : n < (q + 1) * d) : dn n d = q := by
  obtain ⟨k1, k2⟩ := dn_bd (n := n) hd
  have a : dn n d < q + 1 := by
    apply Int.lt_of_mul_lt_mul_right (a := d) _ (by omega)
    omega
  have b : q < dn n d + 1 := by
    apply Int.lt_of_mul_lt_mul_right (a := d) _ (by omega)
    omega
  omega
theorem up_bd {n d : Int} (hd : 0 < d) : n ≤ up n d * d ∧ (up n d - 1) * d < n := by
  obtain ⟨k1, k2⟩ := dn_bd (n := -n) hd
  unfold up
  have e1 : -dn (-n) d * d = -(dn (-n) d * d) := by rw [Int.neg_mul]
  have e2 : (-dn (-n) d - 1) * d = -((dn (-n) d + 1) * d) := by rw [← Int.neg_mul]; congr 1; omega
  omega
/-- the quotient of magnitudes, with a sign -/
theorem dn_mag {m d : Nat} (hd : 0 < d) (s : Int) (hs : s = 1 ∨ s = -1) (t : Int) (ht : t = 1 ∨ t = -1) :
    dn (s * m) (t * d) = if s = t then ((m / d : Nat) : Int) else -(((m / d : Nat) : Int) + if m % d = 0 then 0 else 1) := by
  have h := Nat.div_add_mod m d
  have hlt := Nat.mod_lt m hd
  have hz : (m : Int) = d * (m / d : Nat) + (m % d : Nat) := by
    have : ((d * (m / d) + m % d : Nat) : Int) = m := by rw [h]
    rw [← this]; simp
  generalize (m / d) = q at *
  generalize (m % d) = r at *
  have same : dn (m : Int) (d : Int) = q := by
    apply dn_uniq (by omega)
    · rw [Int.mul_comm]; omega
    · rw [Int.add_mul, Int.mul_comm]; omega
  have opp : dn (-(m : Int)) (d : Int) = -((q : Int) + if r = 0 then 0 else 1) := by
    apply dn_uniq (by omega)
    · by_cases e : r = 0
      · rw [if_pos e, Int.add_zero, Int.neg_mul, Int.mul_comm (q : Int)]; omega
      · rw [if_neg e, Int.neg_mul, Int.add_mul, Int.mul_comm (q : Int)]; omega
    · by_cases e : r = 0
      · rw [if_pos e, Int.add_zero, Int.add_mul, Int.neg_mul, Int.mul_comm (q : Int)]; omega
      · rw [if_neg e, show -((q : Int) + 1) + 1 = -(q : Int) by omega, Int.neg_mul, Int.mul_comm (q : Int)]; omega
  rcases hs with rfl | rfl <;> rcases ht with rfl | rfl
  · simp only [Int.one_mul, if_true]; exact same
  · rw [dn_neg _ _ (by omega), if_neg (by omega)]; simp only [Int.one_mul, Int.neg_mul, Int.neg_neg]; exact opp
  · rw [if_neg (by omega)]; simp only [Int.one_mul, Int.neg_mul]; exact opp
  · rw [dn_neg _ _ (by omega), if_pos rfl]; simp only [Int.one_mul, Int.neg_mul, Int.neg_neg]; exact same
/-- the greatest integer whose square is at most a number -/
def isqN : Nat → Nat
  | 0 => 0
  | n + 1 => if (isqN n + 1) * (isqN n + 1) ≤ n + 1 then isqN n + 1 else isqN n
theorem isqN_bd : ∀ n : Nat, isqN n * isqN n ≤ n ∧ n < (isqN n + 1) * (isqN n + 1)
  | 0 => by simp [isqN]
  | n + 1 => by
    obtain ⟨h1, h2⟩ := isqN_bd n
    unfold isqN
    split
    · rename_i h
      refine ⟨h, ?_⟩
      have : (isqN n + 1 + 1) * (isqN n + 1 + 1) = (isqN n + 1) * (isqN n + 1) + 2 * (isqN n + 1) + 1 := by
        generalize isqN n + 1 = x
        simp only [Nat.add_mul, Nat.mul_add]; omega
      omega
    · exact ⟨by omega, by omega⟩
def isq (n : Int) : Int := isqN n.toNat
theorem isq_bd {n : Int} (h : 0 ≤ n) : 0 ≤ isq n ∧ isq n * isq n ≤ n ∧ n < (isq n + 1) * (isq n + 1) := by
  obtain ⟨h1, h2⟩ := isqN_bd n.toNat
  unfold isq
  refine ⟨by omega, ?_, ?_⟩
  · have : ((isqN n.toNat * isqN n.toNat : Nat) : Int) ≤ n := by omega
    simpa using this
  · have : n < (((isqN n.toNat + 1) * (isqN n.toNat + 1) : Nat) : Int) := by omega
    simpa using this
theorem sq_lt {a b : Int} (ha : 0 ≤ a) (h : a * a < b * b) (hb : 0 ≤ b) : a < b := by
  rcases Int.lt_or_le a b with k | k
  · exact k
  · have := Int.mul_le_mul k k hb ha
    omega
theorem sq_le {a b : Int} (ha : 0 ≤ a) (h : a ≤ b) : a * a ≤ b * b := Int.mul_le_mul h h ha (by omega)
theorem isq_uniq {n r : Int} (h : 0 ≤ n) (h0 : 0 ≤ r) (h1 : r * r ≤ n) (h2 : n < (r + 1) * (r + 1)) : isq n = r := by
  obtain ⟨k0, k1, k2⟩ := isq_bd h
  have a := sq_lt (a := r) (b := isq n + 1) h0 (by omega) (by omega)
  have b := sq_lt (a := isq n) (b := r + 1) k0 (by omega) (by omega)
  omega
theorem isq_mono {n m : Int} (h : 0 ≤ n) (hm : n ≤ m) : isq n ≤ isq m := by
  obtain ⟨k0, k1, k2⟩ := isq_bd h
  obtain ⟨j0, j1, j2⟩ := isq_bd (n := m) (by omega)
  have := sq_lt (a := isq n) (b := isq m + 1) k0 (by omega) (by omega)
  omega
def isqU (n : Int) : Int := if isq n * isq n < n then isq n + 1 else isq n
def negE (a : Sp) : Int := if vB a = true then 0 else 1
def negS (a : Sp) : Sp := if vB a = true then ⟨-a.hi, -a.lo⟩ else Sp.zero
theorem neg_yes {a : Sp} (h : vB a = true) : negE a = 0 ∧ negS a = ⟨-a.hi, -a.lo⟩ := by simp [negE, negS, h]
theorem neg_no {a : Sp} (h : vB a = false) : negE a = 1 ∧ negS a = Sp.zero := by simp [negE, negS, h]
def hullS (a b : Sp) : Sp := ⟨if b.lo < a.lo then b.lo else a.lo, if a.hi < b.hi then b.hi else a.hi⟩
def meetV (a b : Sp) : Sp := ⟨if a.lo < b.lo then b.lo else a.lo, if b.hi < a.hi then b.hi else a.hi⟩
def meetE (a b : Sp) : Int := if (meetV a b).lo ≤ (meetV a b).hi then 0 else 21
def meetS (a b : Sp) : Sp := if (meetV a b).lo ≤ (meetV a b).hi then meetV a b else Sp.zero
end Go.Proofs.YtbmocghfpcfmhaaGreatDoor
