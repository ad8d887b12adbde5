/- Parts of one proof, joined: The rules that the walk uses of six to ten blocks of its own. Small functions of the program's surfaces: small, right, point, corners, turn, triangle, side: what each returns; nothing that was there is turned. The program's triangle, separates, and the two functions that Check hands on: what each returns; nothing that was there is turned. slices.IndexFunc and slices.ContainsFunc at integers, with a function that captures nothing and turns nothing; slices.Equal at integers. Regions that draw their order, only read, and call functions that leave what was there as it is: one walk in the order of the text, in the class of the worlds in which the call's own blocks are whole. Regions that draw their order, of reads and calls that leave a class of worlds, ahead of some last operations that wait for all of them: one walk in the order of the text. -/
import Derived.Test.YtaaadejamjbcbaaGreatDoorPkLanduseAreas2
import Derived.Deep.RegionHeld3
import Derived.Deep.RegionWith
import Derived.Deep.QuietTactic
import Derived.BigQuiet
import Derived.StillTail
namespace Go.Proofs.YtaaadejamjbcbaaGreatDoor

theorem Own.r6 {w W : World} {b0 b1 b2 b3 b4 b5 : Nat} {t0 t1 t2 t3 t4 t5 : TypeId} {c0 c1 c2 c3 c4 c5 : Array Value} {L} (h : Own w W ((b0, t0, c0) :: (b1, t1, c1) :: (b2, t2, c2) :: (b3, t3, c3) :: (b4, t4, c4) :: (b5, t5, c5) :: L)) :
    ((∀ i, W.cell? ⟨b0, i, none⟩ = c0[i]?) ∧ (∀ i, W.frozen? ⟨b0, i, none⟩ = false) ∧ b0 < W.heap.size) ∧
    ((∀ i, W.cell? ⟨b1, i, none⟩ = c1[i]?) ∧ (∀ i, W.frozen? ⟨b1, i, none⟩ = false) ∧ b1 < W.heap.size) ∧
    ((∀ i, W.cell? ⟨b2, i, none⟩ = c2[i]?) ∧ (∀ i, W.frozen? ⟨b2, i, none⟩ = false) ∧ b2 < W.heap.size) ∧
    ((∀ i, W.cell? ⟨b3, i, none⟩ = c3[i]?) ∧ (∀ i, W.frozen? ⟨b3, i, none⟩ = false) ∧ b3 < W.heap.size) ∧
    ((∀ i, W.cell? ⟨b4, i, none⟩ = c4[i]?) ∧ (∀ i, W.frozen? ⟨b4, i, none⟩ = false) ∧ b4 < W.heap.size) ∧
    ((∀ i, W.cell? ⟨b5, i, none⟩ = c5[i]?) ∧ (∀ i, W.frozen? ⟨b5, i, none⟩ = false) ∧ b5 < W.heap.size) := ⟨h.r1, h.tail.r5⟩
theorem Own.r7 {w W : World} {b0 b1 b2 b3 b4 b5 b6 : Nat} {t0 t1 t2 t3 t4 t5 t6 : TypeId} {c0 c1 c2 c3 c4 c5 c6 : Array Value} {L} (h : Own w W ((b0, t0, c0) :: (b1, t1, c1) :: (b2, t2, c2) :: (b3, t3, c3) :: (b4, t4, c4) :: (b5, t5, c5) :: (b6, t6, c6) :: L)) :
    ((∀ i, W.cell? ⟨b0, i, none⟩ = c0[i]?) ∧ (∀ i, W.frozen? ⟨b0, i, none⟩ = false) ∧ b0 < W.heap.size) ∧
    ((∀ i, W.cell? ⟨b1, i, none⟩ = c1[i]?) ∧ (∀ i, W.frozen? ⟨b1, i, none⟩ = false) ∧ b1 < W.heap.size) ∧
    ((∀ i, W.cell? ⟨b2, i, none⟩ = c2[i]?) ∧ (∀ i, W.frozen? ⟨b2, i, none⟩ = false) ∧ b2 < W.heap.size) ∧
    ((∀ i, W.cell? ⟨b3, i, none⟩ = c3[i]?) ∧ (∀ i, W.frozen? ⟨b3, i, none⟩ = false) ∧ b3 < W.heap.size) ∧
    ((∀ i, W.cell? ⟨b4, i, none⟩ = c4[i]?) ∧ (∀ i, W.frozen? ⟨b4, i, none⟩ = false) ∧ b4 < W.heap.size) ∧
    ((∀ i, W.cell? ⟨b5, i, none⟩ = c5[i]?) ∧ (∀ i, W.frozen? ⟨b5, i, none⟩ = false) ∧ b5 < W.heap.size) ∧
    ((∀ i, W.cell? ⟨b6, i, none⟩ = c6[i]?) ∧ (∀ i, W.frozen? ⟨b6, i, none⟩ = false) ∧ b6 < W.heap.size) := ⟨h.r1, h.tail.r6⟩
theorem Own.r8 {w W : World} {b0 b1 b2 b3 b4 b5 b6 b7 : Nat} {t0 t1 t2 t3 t4 t5 t6 t7 : TypeId} {c0 c1 c2 c3 c4 c5 c6 c7 : Array Value} {L} (h : Own w W ((b0, t0, c0) :: (b1, t1, c1) :: (b2, t2, c2) :: (b3, t3, c3) :: (b4, t4, c4) :: (b5, t5, c5) :: (b6, t6, c6) :: (b7, t7, c7) :: L)) :
    ((∀ i, W.cell? ⟨b0, i, none⟩ = c0[i]?) ∧ (∀ i, W.frozen? ⟨b0, i, none⟩ = false) ∧ b0 < W.heap.size) ∧
    ((∀ i, W.cell? ⟨b1, i, none⟩ = c1[i]?) ∧ (∀ i, W.frozen? ⟨b1, i, none⟩ = false) ∧ b1 < W.heap.size) ∧
    ((∀ i, W.cell? ⟨b2, i, none⟩ = c2[i]?) ∧ (∀ i, W.frozen? ⟨b2, i, none⟩ = false) ∧ b2 < W.heap.size) ∧
    ((∀ i, W.cell? ⟨b3, i, none⟩ = c3[i]?) ∧ (∀ i, W.frozen? ⟨b3, i, none⟩ = false) ∧ b3 < W.heap.size) ∧
    ((∀ i, W.cell? ⟨b4, i, none⟩ = c4[i]?) ∧ (∀ i, W.frozen? ⟨b4, i, none⟩ = false) ∧ b4 < W.heap.size) ∧
    ((∀ i, W.cell? ⟨b5, i, none⟩ = c5[i]?) ∧ (∀ i, W.frozen? ⟨b5, i, none⟩ = false) ∧ b5 < W.heap.size) ∧
    ((∀ i, W.cell? ⟨b6, i, none⟩ = c6[i]?) ∧ (∀ i, W.frozen? ⟨b6, i, none⟩ = false) ∧ b6 < W.heap.size) ∧
    ((∀ i, W.cell? ⟨b7, i, none⟩ = c7[i]?) ∧ (∀ i, W.frozen? ⟨b7, i, none⟩ = false) ∧ b7 < W.heap.size) := ⟨h.r1, h.tail.r7⟩
theorem Own.r9 {w W : World} {b0 b1 b2 b3 b4 b5 b6 b7 b8 : Nat} {t0 t1 t2 t3 t4 t5 t6 t7 t8 : TypeId} {c0 c1 c2 c3 c4 c5 c6 c7 c8 : Array Value} {L} (h : Own w W ((b0, t0, c0) :: (b1, t1, c1) :: (b2, t2, c2) :: (b3, t3, c3) :: (b4, t4, c4) :: (b5, t5, c5) :: (b6, t6, c6) :: (b7, t7, c7) :: (b8, t8, c8) :: L)) :
    ((∀ i, W.cell? ⟨b0, i, none⟩ = c0[i]?) ∧ (∀ i, W.frozen? ⟨b0, i, none⟩ = false) ∧ b0 < W.heap.size) ∧
    ((∀ i, W.cell? ⟨b1, i, none⟩ = c1[i]?) ∧ (∀ i, W.frozen? ⟨b1, i, none⟩ = false) ∧ b1 < W.heap.size) ∧
    ((∀ i, W.cell? ⟨b2, i, none⟩ = c2[i]?) ∧ (∀ i, W.frozen? ⟨b2, i, none⟩ = false) ∧ b2 < W.heap.size) ∧
    ((∀ i, W.cell? ⟨b3, i, none⟩ = c3[i]?) ∧ (∀ i, W.frozen? ⟨b3, i, none⟩ = false) ∧ b3 < W.heap.size) ∧
    ((∀ i, W.cell? ⟨b4, i, none⟩ = c4[i]?) ∧ (∀ i, W.frozen? ⟨b4, i, none⟩ = false) ∧ b4 < W.heap.size) ∧
    ((∀ i, W.cell? ⟨b5, i, none⟩ = c5[i]?) ∧ (∀ i, W.frozen? ⟨b5, i, none⟩ = false) ∧ b5 < W.heap.size) ∧
    ((∀ i, W.cell? ⟨b6, i, none⟩ = c6[i]?) ∧ (∀ i, W.frozen? ⟨b6, i, none⟩ = false) ∧ b6 < W.heap.size) ∧
    ((∀ i, W.cell? ⟨b7, i, none⟩ = c7[i]?) ∧ (∀ i, W.frozen? ⟨b7, i, none⟩ = false) ∧ b7 < W.heap.size) ∧
    ((∀ i, W.cell? ⟨b8, i, none⟩ = c8[i]?) ∧ (∀ i, W.frozen? ⟨b8, i, none⟩ = false) ∧ b8 < W.heap.size) := ⟨h.r1, h.tail.r8⟩
theorem Own.r10 {w W : World} {b0 b1 b2 b3 b4 b5 b6 b7 b8 b9 : Nat} {t0 t1 t2 t3 t4 t5 t6 t7 t8 t9 : TypeId} {c0 c1 c2 c3 c4 c5 c6 c7 c8 c9 : Array Value} {L} (h : Own w W ((b0, t0, c0) :: (b1, t1, c1) :: (b2, t2, c2) :: (b3, t3, c3) :: (b4, t4, c4) :: (b5, t5, c5) :: (b6, t6, c6) :: (b7, t7, c7) :: (b8, t8, c8) :: (b9, t9, c9) :: L)) :
    ((∀ i, W.cell? ⟨b0, i, none⟩ = c0[i]?) ∧ (∀ i, W.frozen? ⟨b0, i, none⟩ = false) ∧ b0 < W.heap.size) ∧
    ((∀ i, W.cell? ⟨b1, i, none⟩ = c1[i]?) ∧ (∀ i, W.frozen? ⟨b1, i, none⟩ = false) ∧ b1 < W.heap.size) ∧
    ((∀ i, W.cell? ⟨b2, i, none⟩ = c2[i]?) ∧ (∀ i, W.frozen? ⟨b2, i, none⟩ = false) ∧ b2 < W.heap.size) ∧
    ((∀ i, W.cell? ⟨b3, i, none⟩ = c3[i]?) ∧ (∀ i, W.frozen? ⟨b3, i, none⟩ = false) ∧ b3 < W.heap.size) ∧
    ((∀ i, W.cell? ⟨b4, i, none⟩ = c4[i]?) ∧ (∀ i, W.frozen? ⟨b4, i, none⟩ = false) ∧ b4 < W.heap.size) ∧
    ((∀ i, W.cell? ⟨b5, i, none⟩ = c5[i]?) ∧ (∀ i, W.frozen? ⟨b5, i, none⟩ = false) ∧ b5 < W.heap.size) ∧
    ((∀ i, W.cell? ⟨b6, i, none⟩ = c6[i]?) ∧ (∀ i, W.frozen? ⟨b6, i, none⟩ = false) ∧ b6 < W.heap.size) ∧
    ((∀ i, W.cell? ⟨b7, i, none⟩ = c7[i]?) ∧ (∀ i, W.frozen? ⟨b7, i, none⟩ = false) ∧ b7 < W.heap.size) ∧
    ((∀ i, W.cell? ⟨b8, i, none⟩ = c8[i]?) ∧ (∀ i, W.frozen? ⟨b8, i, none⟩ = false) ∧ b8 < W.heap.size) ∧
    ((∀ i, W.cell? ⟨b9, i, none⟩ = c9[i]?) ∧ (∀ i, W.frozen? ⟨b9, i, none⟩ = false) ∧ b9 < W.heap.size) := ⟨h.r1, h.tail.r9⟩
end Go.Proofs.YtaaadejamjbcbaaGreatDoor

namespace Go.Proofs.YtaaadejamjbcbaaGreatDoor
open Go Go.RowKit

theorem cell_set2 {W : World} {b h : Nat} (hn : ¬ h = b) (u v : Value) (i : Nat) : ((W.setCell ⟨b, 0, none⟩ u).setCell ⟨b, 1, none⟩ v).drew.cell? ⟨h, i, none⟩ = W.cell? ⟨h, i, none⟩ :=
  World.cell?_of_block ((Below.heap_setCell (W.setCell ⟨b, 0, none⟩ u) ⟨b, 1, none⟩ v h hn).trans (Below.heap_setCell W ⟨b, 0, none⟩ u h hn))
def RetW (v : Value) (w : World) (e : Ending) (w' : World) : Prop := e = .returned v ∧ Below w.heap.size w w'
set_option maxHeartbeats 1000000 in
theorem mssmall_any (m : Msh) (a : MshA) (w : World) : Calls Tryz.prog 66 #[m.val a] w (RetW (.bool (smB m)) w) := by
  have X := (Own.start w).alloc (m.cells a) 25
  have hr := X.r1
  have E : Hid (smB m = (decide (m.ss.length ≤ 2000) && decide (m.fs.length ≤ 4000))) := hide rfl
  by_cases h1 : m.ss.length ≤ 2000 <;> by_cases h2 : m.fs.length ≤ 4000
  all_goals
    go_enter Tryz.func66, Tryz.ntmps66
    go_wp2
    go_ret
    exact ⟨ret_bool (by rw [E.out]; simp [h1, h2]; try omega), X.1⟩
set_option maxHeartbeats 1000000 in
theorem plvalid_any (p : Pnt) (w : World) : Calls Tryz.prog 86 #[p.val] w (RetW (.bool (inP p)) w) := by
  have X := (Own.start w).alloc #[.int .i64 p.x, .int .i64 p.y] 95
  have hr := X.r1
  have E : Hid (inP p = (decide (-16777216 ≤ p.x) && decide (p.x ≤ 16777216) && decide (-16777216 ≤ p.y) && decide (p.y ≤ 16777216))) := hide rfl
  have ways : decide (-16777216 ≤ p.x) = false ∨ (decide (-16777216 ≤ p.x) = true ∧ decide (p.x ≤ 16777216) = false) ∨ (decide (-16777216 ≤ p.x) = true ∧ decide (p.x ≤ 16777216) = true ∧ decide (-16777216 ≤ p.y) = false) ∨
      (decide (-16777216 ≤ p.x) = true ∧ decide (p.x ≤ 16777216) = true ∧ decide (-16777216 ≤ p.y) = true) := by
    cases decide (-16777216 ≤ p.x) <;> cases decide (p.x ≤ 16777216) <;> cases decide (-16777216 ≤ p.y) <;> simp
  rcases ways with q1 | ⟨q1, q2⟩ | ⟨q1, q2, q3⟩ | ⟨q1, q2, q3⟩
  all_goals
    go_enter Tryz.func86, Tryz.ntmps86
    go_wp2
    go_ret
    exact ⟨ret_bool (by rw [E.out]; simp [*]), X.1⟩
set_option maxHeartbeats 1000000 in
theorem msright_any (s : Spt) (w : World) : Calls Tryz.prog 67 #[s.val] w (RetW (.bool (okS s)) w) := by
  have X := (Own.start w).alloc #[.int .i64 s.x, .int .i64 s.y, .int .i64 s.z] 62
  have hr := X.r1
  have PV := hide (fun W => plvalid_any ⟨s.x, s.y⟩ W)
  have E : Hid (okS s = (inP ⟨s.x, s.y⟩ && decide (-4194304 ≤ s.z) && decide (s.z ≤ 4194304))) := hide rfl
  generalize inP ⟨s.x, s.y⟩ = b at *
  have ways : b = false ∨ (b = true ∧ decide (-4194304 ≤ s.z) = false) ∨ (b = true ∧ decide (-4194304 ≤ s.z) = true) := by
    cases b <;> cases decide (-4194304 ≤ s.z) <;> simp
  rcases ways with rfl | ⟨rfl, q2⟩ | ⟨rfl, q2⟩
  all_goals
    go_enter Tryz.func67, Tryz.ntmps67
    go_wp2_with fail
    refine (PV.out _).mono ?_
    rintro e w1 ⟨rfl, hb⟩
    replace X := X.to hb
    clear hr hb
    have hr := X.r1
    go_wp2
    go_ret
    exact ⟨ret_bool (by rw [E.out]; simp [*]), X.1⟩
set_option maxRecDepth 100000 in
set_option maxHeartbeats 2000000 in
theorem mspoint_any (m : Msh) (a : MshA) (i : Int) (w : World) (hm : MshSl w m a) (h0 : 0 ≤ i) (h1 : i < m.ss.length) : Calls Tryz.prog 68 #[m.val a, .int .i64 i] w (RetW (spA m.ss i).pt.val w) := by
  obtain ⟨k, rfl⟩ : ∃ k : Nat, i = (k : Int) := ⟨i.toNat, by omega⟩
  have hk : k < m.ss.length := by omega
  obtain ⟨A1, c1, A2, c2⟩ := a
  have hlen : m.ss.length ≤ 9223372036854775807 := hm.1.1.1
  obtain ⟨b, off, e, hbl, hat⟩ := hm.1.2 (by omega)
  have e' : A1 = some ⟨b, off, none⟩ := e
  subst e'
  obtain ⟨c0, d0, _⟩ := hat k hk
  have eS : spA m.ss (k : Int) = m.ss[k] := by simp [spA, hk]
  rw [eS]
  have X := ((Own.start w).alloc #[.slice (some ⟨b, off, none⟩) m.ss.length c1, .slice A2 m.fs.length c2] 25).alloc #[.int .i64 0, .int .i64 0] 95
  rw [World.size_alloc] at X
  have hr := X.r2
  have XB := hide X.1
  have g0 : (0 : Int) ≤ (k : Int) := by omega
  have g1 : (k : Int) < (m.ss.length : Int) := by omega
  have n1 : ¬ (w.heap.size = w.heap.size + 1) := by omega
  have n2 : ¬ (b = w.heap.size + 1) := by omega
  have n3 : ¬ (b = w.heap.size) := by omega
  clear hat X hm eS
  generalize m.ss[k] = s at *
  show Calls _ _ _ _ (RetW (.agg #[.int .i64 s.x, .int .i64 s.y]) w)
  go_enter Tryz.func68, Tryz.ntmps68
  go_wp2
  go_region_held3 (fun w' => w'.cell? ⟨w.heap.size, 0, none⟩ = some (.slice (some ⟨b, off, none⟩) m.ss.length c1) ∧ w'.cell? ⟨b, off + k * 3, none⟩ = some (.int .i64 s.x) ∧ w'.cell? ⟨b, off + k * 3 + 1, none⟩ = some (.int .i64 s.y)) (go_keep) (fail)
  go_wp2
  exact bodyPost_ret (v := .agg #[.int .i64 s.x, .int .i64 s.y]) (by simp [results, Tryz.results68, go_sem]) rfl ⟨rfl, by have HX := XB.out; have hz := HX.size; go_grown⟩
set_option maxHeartbeats 1000000 in
theorem mscorners_any (f : Fce) (w : World) : Calls Tryz.prog 69 #[f.val] w (RetW (.agg #[.int .i64 f.a, .int .i64 f.b, .int .i64 f.c]) w) := by
  have X := ((Own.start w).alloc #[.int .i64 f.a, .int .i64 f.b, .int .i64 f.c, .int .i64 f.k] 65).alloc #[.int .i64 0, .int .i64 0, .int .i64 0] 125
  rw [World.size_alloc] at X
  have hr := X.r2
  have XB := hide X.1
  go_enter Tryz.func69, Tryz.ntmps69
  go_wp2
  exact bodyPost_ret (v := .agg #[.int .i64 f.a, .int .i64 f.b, .int .i64 f.c]) (by simp [results, Tryz.results69, go_sem]) rfl ⟨rfl, by have HX := XB.out; have hz := HX.size; go_grown⟩
set_option maxHeartbeats 1000000 in
theorem msturn_any (a b c : Pnt) (w : World) (ha : a.in) (hb : b.in) (hc : c.in) : Calls Tryz.prog 54 #[a.val, b.val, c.val] w (RetW (.int .i64 (trn a b c)) w) := by
  have X := (((Own.start w).alloc #[.int .i64 a.x, .int .i64 a.y] 95).alloc #[.int .i64 b.x, .int .i64 b.y] 95).alloc #[.int .i64 c.x, .int .i64 c.y] 95
  simp only [World.size_alloc] at X
  have hr := X.r3
  have XB := hide X.1
  obtain ⟨m1, m2⟩ := trn_bd ha hb hc
  obtain ⟨⟨a1, a2⟩, a3, a4⟩ := ha
  obtain ⟨⟨b1, b2⟩, b3, b4⟩ := hb
  obtain ⟨⟨c1, c2⟩, c3, c4⟩ := hc
  have E : Hid (trn a b c = (b.x - a.x) * (c.y - a.y) - (b.y - a.y) * (c.x - a.x)) := hide rfl
  generalize trn a b c = t at *
  have e1 := IntWalk.i64_in (b.x - a.x) (by omega)
  have e2 := IntWalk.i64_in (c.y - a.y) (by omega)
  have e3 := IntWalk.i64_in (b.y - a.y) (by omega)
  have e4 := IntWalk.i64_in (c.x - a.x) (by omega)
  obtain ⟨p, hp⟩ : ∃ p, p = (b.x - a.x) * (c.y - a.y) := ⟨_, rfl⟩
  obtain ⟨q, hq⟩ : ∃ q, q = (b.y - a.y) * (c.x - a.x) := ⟨_, rfl⟩
  rw [← hp, ← hq] at E
  rw [← hp] at m1
  rw [← hq] at m2
  have w1 : IntKind.i64.wrap ((b.x - a.x) * (c.y - a.y)) = p := by rw [← hp]; exact IntWalk.i64_in _ (by omega)
  have w2 : IntKind.i64.wrap ((b.y - a.y) * (c.x - a.x)) = q := by rw [← hq]; exact IntWalk.i64_in _ (by omega)
  have w3 := IntWalk.i64_in (p - q) (by omega)
  clear hp hq X
  go_enter Tryz.func54, Tryz.ntmps54
  go_wp2
  go_ret
  exact ⟨by rw [E.out]; rfl, XB.out⟩
set_option maxRecDepth 100000 in
set_option maxHeartbeats 2000000 in
/-- a side: its number from 0 to 2 -/
theorem msside_any (f : Fce) (k : Nat) (w : World) (hk : k < 3) : Calls Tryz.prog 71 #[f.val, .int .i64 k] w (RetW (.agg #[.int .i64 (sdA f k).1, .int .i64 (sdA f k).2]) w) := by
  have X := ((Own.start w).alloc #[.int .i64 f.a, .int .i64 f.b, .int .i64 f.c, .int .i64 f.k] 65).alloc #[.int .i64 0, .int .i64 0] 127
  rw [World.size_alloc] at X
  have hr := X.r2
  have CN := hide (fun W => mscorners_any f W)
  obtain rfl | rfl | rfl : k = 0 ∨ k = 1 ∨ k = 2 := by omega
  · clear hk
    show Calls _ _ #[f.val, .int .i64 0] w (RetW (.agg #[.int .i64 f.a, .int .i64 f.b]) w)
    go_enter Tryz.func71, Tryz.ntmps71
    go_wp2_with fail
    refine (CN.out _).mono ?_
    rintro e w1 ⟨rfl, hb⟩
    have n0 : w.heap.size + 1 < w1.heap.size := by have hz := hb.size; simp at hz; omega
    replace X := (X.to hb).alloc #[.int .i64 f.a, .int .i64 f.b, .int .i64 f.c] 125
    clear hr hb
    have XB := hide X.1
    have n1 : ¬ (w1.heap.size = w.heap.size + 1) := by omega
    have s1 : IntKind.i64.wrap 1 = 1 := by decide
    have s2 : (1 : Int).tmod 3 = 1 := by decide
    go_wp2
    generalize w1.alloc (.cells #[.int .i64 f.a, .int .i64 f.b, .int .i64 f.c] 125) = W at *
    have hr := X.r3
    have KP : ∀ u v : Value, ((W.setCell ⟨w.heap.size + 1, 0, none⟩ u).setCell ⟨w.heap.size + 1, 1, none⟩ v).drew.cell? ⟨w1.heap.size, 0, none⟩ = some (.int .i64 f.a) ∧ ((W.setCell ⟨w.heap.size + 1, 0, none⟩ u).setCell ⟨w.heap.size + 1, 1, none⟩ v).drew.cell? ⟨w1.heap.size, 1, none⟩ = some (.int .i64 f.b) ∧
        ((W.setCell ⟨w.heap.size + 1, 0, none⟩ u).setCell ⟨w.heap.size + 1, 1, none⟩ v).drew.cell? ⟨w1.heap.size, 2, none⟩ = some (.int .i64 f.c) := fun u v => ⟨(cell_set2 n1 _ _ _).trans (hr.1.1 0), (cell_set2 n1 _ _ _).trans (hr.1.1 1), (cell_set2 n1 _ _ _).trans (hr.1.1 2)⟩
    clear X
    go_region_held3 (fun w' => w'.cell? ⟨w1.heap.size, 0, none⟩ = some (.int .i64 f.a) ∧ w'.cell? ⟨w1.heap.size, 1, none⟩ = some (.int .i64 f.b) ∧ w'.cell? ⟨w1.heap.size, 2, none⟩ = some (.int .i64 f.c)) (first | go_keep | exact KP _ _) (fail)
    go_wp2
    exact bodyPost_ret (v := .agg #[.int .i64 f.a, .int .i64 f.b]) (by simp [results, Tryz.results71, hr, go_sem]) rfl ⟨rfl, by have HX := XB.out; have hz := HX.size; go_grown⟩
  · clear hk
    show Calls _ _ #[f.val, .int .i64 1] w (RetW (.agg #[.int .i64 f.b, .int .i64 f.c]) w)
    go_enter Tryz.func71, Tryz.ntmps71
    go_wp2_with fail
    refine (CN.out _).mono ?_
    rintro e w1 ⟨rfl, hb⟩
    have n0 : w.heap.size + 1 < w1.heap.size := by have hz := hb.size; simp at hz; omega
    replace X := (X.to hb).alloc #[.int .i64 f.a, .int .i64 f.b, .int .i64 f.c] 125
    clear hr hb
    have XB := hide X.1
    have n1 : ¬ (w1.heap.size = w.heap.size + 1) := by omega
    have s1 : IntKind.i64.wrap 2 = 2 := by decide
    have s2 : (2 : Int).tmod 3 = 2 := by decide
    go_wp2
    generalize w1.alloc (.cells #[.int .i64 f.a, .int .i64 f.b, .int .i64 f.c] 125) = W at *
    have hr := X.r3
    have KP : ∀ u v : Value, ((W.setCell ⟨w.heap.size + 1, 0, none⟩ u).setCell ⟨w.heap.size + 1, 1, none⟩ v).drew.cell? ⟨w1.heap.size, 0, none⟩ = some (.int .i64 f.a) ∧ ((W.setCell ⟨w.heap.size + 1, 0, none⟩ u).setCell ⟨w.heap.size + 1, 1, none⟩ v).drew.cell? ⟨w1.heap.size, 1, none⟩ = some (.int .i64 f.b) ∧
        ((W.setCell ⟨w.heap.size + 1, 0, none⟩ u).setCell ⟨w.heap.size + 1, 1, none⟩ v).drew.cell? ⟨w1.heap.size, 2, none⟩ = some (.int .i64 f.c) := fun u v => ⟨(cell_set2 n1 _ _ _).trans (hr.1.1 0), (cell_set2 n1 _ _ _).trans (hr.1.1 1), (cell_set2 n1 _ _ _).trans (hr.1.1 2)⟩
    clear X
    go_region_held3 (fun w' => w'.cell? ⟨w1.heap.size, 0, none⟩ = some (.int .i64 f.a) ∧ w'.cell? ⟨w1.heap.size, 1, none⟩ = some (.int .i64 f.b) ∧ w'.cell? ⟨w1.heap.size, 2, none⟩ = some (.int .i64 f.c)) (first | go_keep | exact KP _ _) (fail)
    go_wp2
    exact bodyPost_ret (v := .agg #[.int .i64 f.b, .int .i64 f.c]) (by simp [results, Tryz.results71, hr, go_sem]) rfl ⟨rfl, by have HX := XB.out; have hz := HX.size; go_grown⟩
  · clear hk
    show Calls _ _ #[f.val, .int .i64 2] w (RetW (.agg #[.int .i64 f.c, .int .i64 f.a]) w)
    go_enter Tryz.func71, Tryz.ntmps71
    go_wp2_with fail
    refine (CN.out _).mono ?_
    rintro e w1 ⟨rfl, hb⟩
    have n0 : w.heap.size + 1 < w1.heap.size := by have hz := hb.size; simp at hz; omega
    replace X := (X.to hb).alloc #[.int .i64 f.a, .int .i64 f.b, .int .i64 f.c] 125
    clear hr hb
    have XB := hide X.1
    have n1 : ¬ (w1.heap.size = w.heap.size + 1) := by omega
    have s1 : IntKind.i64.wrap 3 = 3 := by decide
    have s2 : (3 : Int).tmod 3 = 0 := by decide
    go_wp2
    generalize w1.alloc (.cells #[.int .i64 f.a, .int .i64 f.b, .int .i64 f.c] 125) = W at *
    have hr := X.r3
    have KP : ∀ u v : Value, ((W.setCell ⟨w.heap.size + 1, 0, none⟩ u).setCell ⟨w.heap.size + 1, 1, none⟩ v).drew.cell? ⟨w1.heap.size, 0, none⟩ = some (.int .i64 f.a) ∧ ((W.setCell ⟨w.heap.size + 1, 0, none⟩ u).setCell ⟨w.heap.size + 1, 1, none⟩ v).drew.cell? ⟨w1.heap.size, 1, none⟩ = some (.int .i64 f.b) ∧
        ((W.setCell ⟨w.heap.size + 1, 0, none⟩ u).setCell ⟨w.heap.size + 1, 1, none⟩ v).drew.cell? ⟨w1.heap.size, 2, none⟩ = some (.int .i64 f.c) := fun u v => ⟨(cell_set2 n1 _ _ _).trans (hr.1.1 0), (cell_set2 n1 _ _ _).trans (hr.1.1 1), (cell_set2 n1 _ _ _).trans (hr.1.1 2)⟩
    clear X
    go_region_held3 (fun w' => w'.cell? ⟨w1.heap.size, 0, none⟩ = some (.int .i64 f.a) ∧ w'.cell? ⟨w1.heap.size, 1, none⟩ = some (.int .i64 f.b) ∧ w'.cell? ⟨w1.heap.size, 2, none⟩ = some (.int .i64 f.c)) (first | go_keep | exact KP _ _) (fail)
    go_wp2
    exact bodyPost_ret (v := .agg #[.int .i64 f.c, .int .i64 f.a]) (by simp [results, Tryz.results71, hr, go_sem]) rfl ⟨rfl, by have HX := XB.out; have hz := HX.size; go_grown⟩
end Go.Proofs.YtaaadejamjbcbaaGreatDoor

namespace Go.Proofs.YtaaadejamjbcbaaGreatDoor
open Go Go.RowKit

theorem below_go {a w w' : World} (h : Below a.heap.size a w) (k : Below w.heap.size w w') : Below a.heap.size a w' := below_via h h.size k
set_option maxRecDepth 100000 in
set_option maxHeartbeats 4000000 in
theorem mstri_any (m : Msh) (a : MshA) (f : Fce) (w : World) (hm : MshSl w m a) (ha : 0 ≤ f.a ∧ f.a < m.ss.length) (hb : 0 ≤ f.b ∧ f.b < m.ss.length) (hc : 0 ≤ f.c ∧ f.c < m.ss.length) :
    Calls Tryz.prog 53 #[m.val a, f.val] w (RetW (.agg (triA m.ss f).cells.toArray) w) := by
  have X := (((Own.start w).alloc (m.cells a) 25).alloc #[.int .i64 f.a, .int .i64 f.b, .int .i64 f.c, .int .i64 f.k] 65).alloc #[.int .i64 0, .int .i64 0, .int .i64 0, .int .i64 0, .int .i64 0, .int .i64 0] 102
  simp only [World.size_alloc] at X
  have HM := hide hm
  obtain ⟨A1, c1, A2, c2⟩ := a
  have PA := hide (fun W h => mspoint_any m ⟨A1, c1, A2, c2⟩ f.a W h ha.1 ha.2)
  have PB := hide (fun W h => mspoint_any m ⟨A1, c1, A2, c2⟩ f.b W h hb.1 hb.2)
  have PC := hide (fun W h => mspoint_any m ⟨A1, c1, A2, c2⟩ f.c W h hc.1 hc.2)
  have et : Hid ((triA m.ss f).cells = [.int .i64 (spA m.ss f.a).pt.x, .int .i64 (spA m.ss f.a).pt.y, .int .i64 (spA m.ss f.b).pt.x, .int .i64 (spA m.ss f.b).pt.y, .int .i64 (spA m.ss f.c).pt.x, .int .i64 (spA m.ss f.c).pt.y]) := hide rfl
  generalize (triA m.ss f).cells = tc at *
  generalize (spA m.ss f.a).pt = p at *
  generalize (spA m.ss f.b).pt = q at *
  generalize (spA m.ss f.c).pt = r at *
  unfold RetW at PA PB PC
  clear hm ha hb hc
  go_enter Tryz.func53, Tryz.ntmps53
  go_wp2
  generalize (((w.alloc (.cells #[.slice A1 m.ss.length c1, .slice A2 m.fs.length c2] 25)).alloc (.cells #[.int .i64 f.a, .int .i64 f.b, .int .i64 f.c, .int .i64 f.k] 65)).alloc (.cells #[.int .i64 0, .int .i64 0, .int .i64 0, .int .i64 0, .int .i64 0, .int .i64 0] 102)) = W at *
  have hr := X.r3
  have HX := hide X
  have HMW := hide (fun W' (h : Below W.heap.size W W') => HM.out.below (below_via HX.out.1 HX.out.1.size h))
  have KC := hide (fun W' (h : Below W.heap.size W W') => And.intro ((h.cell (p := ⟨w.heap.size, 0, none⟩) hr.2.2.2.2).trans (hr.2.2.1 0)) (And.intro ((h.cell (p := ⟨w.heap.size, 1, none⟩) hr.2.2.2.2).trans (hr.2.2.1 1))
    (And.intro ((h.cell (p := ⟨w.heap.size + 1, 0, none⟩) hr.2.1.2.2).trans (hr.2.1.1 0)) (And.intro ((h.cell (p := ⟨w.heap.size + 1, 1, none⟩) hr.2.1.2.2).trans (hr.2.1.1 1)) ((h.cell (p := ⟨w.heap.size + 1, 2, none⟩) hr.2.1.2.2).trans (hr.2.1.1 2))))))
  clear X
  have n1 : ¬ (w.heap.size = w.heap.size + 1 + 1) := by omega
  have n2 : ¬ (w.heap.size + 1 + 1 = w.heap.size) := by omega
  go_region_held3 (fun w' => w'.cell? ⟨w.heap.size, 0, none⟩ = some (.slice A1 m.ss.length c1) ∧ w'.cell? ⟨w.heap.size, 1, none⟩ = some (.slice A2 m.fs.length c2) ∧ w'.cell? ⟨w.heap.size + 1, 0, none⟩ = some (.int .i64 f.a) ∧ w'.cell? ⟨w.heap.size + 1, 1, none⟩ = some (.int .i64 f.b) ∧ w'.cell? ⟨w.heap.size + 1, 2, none⟩ = some (.int .i64 f.c)) (go_keep)
    (first
      | (go_at_call 68; (first | (with_reducible refine Calls.mono (PA.out _ (HMW.out _ (by go_grown))) ?_) | (with_reducible refine Calls.mono (PB.out _ (HMW.out _ (by go_grown))) ?_) | (with_reducible refine Calls.mono (PC.out _ (HMW.out _ (by go_grown))) ?_)); (rintro e w1 ⟨rfl, hb⟩); have hw := below_go (show Below W.heap.size W _ from by go_grown) hb; have hr2 := (HX.out.to hw).r3; obtain ⟨q1, q2, q3, q4, q5⟩ := KC.out _ hw))
  all_goals
    have XB := hide (HX.out.to hw).1
    go_wp2
    exact bodyPost_ret (v := .agg #[.int .i64 p.x, .int .i64 p.y, .int .i64 q.x, .int .i64 q.y, .int .i64 r.x, .int .i64 r.y]) (by simp [results, Tryz.results53, hr2, go_sem]) rfl ⟨by rw [et.out], by have HX := XB.out; have hz := HX.size; go_grown⟩
end Go.Proofs.YtaaadejamjbcbaaGreatDoor

namespace Go.Proofs.YtaaadejamjbcbaaGreatDoor
open Go.RowKit

def idxP (p : Int → Bool) (l : List Int) : Int := match l.findIdx? p with | some i => (i : Int) | none => -1
theorem idxP_no {p : Int → Bool} {l : List Int} (h : ∀ i (hi : i < l.length), p l[i] = false) : idxP p l = -1 := by
  have : l.findIdx? p = none := by
    rw [List.findIdx?_eq_none_iff]
    intro x hx
    obtain ⟨i, hi, rfl⟩ := List.mem_iff_getElem.1 hx
    exact h i hi
  simp [idxP, this]
theorem idxP_yes {p : Int → Bool} {l : List Int} {k : Nat} (hk : k < l.length) (h : ∀ i (hi : i < l.length), i < k → p l[i] = false) (hy : p l[k] = true) : idxP p l = k := by
  have : l.findIdx? p = some k := by
    rw [List.findIdx?_eq_some_iff_getElem]
    exact ⟨hk, hy, fun j hj => by rw [h j (by omega) hj]; simp⟩
  simp [idxP, this]
theorem any_idx (p : Int → Bool) (l : List Int) : l.any p = decide (0 ≤ idxP p l) := by
  unfold idxP
  cases h : l.findIdx? p with
  | none =>
    rw [List.findIdx?_eq_none_iff] at h
    rw [Bool.eq_iff_iff]
    simp only [List.any_eq_true, decide_eq_true_eq]
    constructor
    · rintro ⟨x, hx, hp⟩
      rw [h x hx] at hp
      cases hp
    · intro h'
      omega
  | some i =>
    rw [List.findIdx?_eq_some_iff_getElem] at h
    obtain ⟨hi, hp, _⟩ := h
    rw [Bool.eq_iff_iff]
    simp only [List.any_eq_true, decide_eq_true_eq]
    exact ⟨fun _ => by omega, fun _ => ⟨l[i], List.getElem_mem hi, hp⟩⟩

set_option maxHeartbeats 1000000 in
theorem idxfI_any (f : Nat) (p : Int → Bool) (hf : ∀ (d : Int) (w : World), Calls Tryz.prog f #[.int .i64 d] w fun e w' => e = .returned (.bool (p d)) ∧ w = w') (hc : ∀ (d : Int) (w : World), (callFunc f #[.int .i64 d]).run Tryz.prog w = .ok (.enter f #[.int .i64 d]) w) (l : List Int) (A : Option Addr) (cap : Nat) (w : World) (hl : IntSl w A l) :
    Calls Tryz.prog 51 #[.slice A l.length cap, .func (.func f) #[] #[]] w fun e w' => e = .returned (.int .i64 (idxP p l)) ∧ w = w' := by
  have hlen : l.length ≤ 9223372036854775807 := by have := hl.1.1; omega
  have H := hide hl
  have F := hide hf
  clear hl hf
  go_enter Tryz.func51, Tryz.ntmps51
  go_wp2
  go_loop [8] (fun v8 => ∃ k : Nat, k ≤ l.length ∧ v8 = .int .i64 k ∧ Hid (∀ i (hi : i < l.length), i < k → p l[i] = false)) (fun v8 => l.length - (intOf v8).toNat)
  case atStart => exact ⟨0, Nat.zero_le _, rfl, hide (fun _ _ h => by omega)⟩
  case round =>
    obtain ⟨k, hk, rfl, hno⟩ := hrel
    by_cases hlt : k < l.length
    · obtain ⟨b, off, rfl, hbl, hat⟩ := H.out.2 (by omega)
      have c0 := hat k hlt
      clear hat
      rcases Bool.eq_false_or_eq_true (p l[k]) with hs | hs
      · go_wp2_with fail
        refine (F.out l[k] _).mono ?_
        rintro e w' ⟨rfl, rfl⟩
        go_wp2
        go_ret
        exact ⟨ret_int (idxP_yes hlt (fun i hi hik => hno.out i hi hik) hs).symm, rfl⟩
      · go_wp2_with fail
        refine (F.out l[k] _).mono ?_
        rintro e w' ⟨rfl, rfl⟩
        go_wp2
        go_round
        case rel =>
          refine ⟨k + 1, by omega, by go_num, hide fun i hi hik => ?_⟩
          by_cases e : i = k
          · subst e; exact hs
          · exact hno.out i hi (by omega)
        case measure => simp [intOf]; omega
    · go_wp2
      go_ret
      exact ⟨ret_int (idxP_no fun i hi => hno.out i hi (by omega)).symm, rfl⟩
set_option maxHeartbeats 1000000 in
theorem contI_any (f : Nat) (p : Int → Bool) (hf : ∀ (d : Int) (w : World), Calls Tryz.prog f #[.int .i64 d] w fun e w' => e = .returned (.bool (p d)) ∧ w = w') (hc : ∀ (d : Int) (w : World), (callFunc f #[.int .i64 d]).run Tryz.prog w = .ok (.enter f #[.int .i64 d]) w) (l : List Int) (A : Option Addr) (cap : Nat) (w : World) (hl : IntSl w A l) :
    Calls Tryz.prog 29 #[.slice A l.length cap, .func (.func f) #[] #[]] w fun e w' => e = .returned (.bool (l.any p)) ∧ w = w' := by
  have F := hide hf
  have H := hide (any_idx p l)
  clear hf
  have HL := hide hl
  clear hl
  go_enter Tryz.func29, Tryz.ntmps29
  go_wp2_with fail
  refine (idxfI_any f p F.out hc l A cap _ HL.out).mono ?_
  rintro e w' ⟨rfl, rfl⟩
  go_wp2
  go_ret
  exact ⟨ret_bool H.out.symm, rfl⟩
theorem below_drewN {B : Nat} {a w : World} (h : Below B a w) (n : Nat) : Below B a (w.drewN n) := ⟨h.os, h.tape, h.output, h.size, h.block⟩
/-- two lists of integers are equal -/
def eqB (l m : List Int) : Bool := decide (l = m)
set_option maxHeartbeats 1000000 in
theorem equalI_any (l m : List Int) (A B : Option Addr) (cap cap' : Nat) (w : World) (hl : IntSl w A l) (hm : IntSl w B m) :
    Calls Tryz.prog 15 #[.slice A l.length cap, .slice B m.length cap'] w fun e w' => e = .returned (.bool (eqB l m)) ∧ Below w.heap.size w w' := by
  have hlen : l.length ≤ 9223372036854775807 := by have := hl.1.1; omega
  have hlen' : m.length ≤ 9223372036854775807 := by have := hm.1.1; omega
  have H := hide hl
  have H' := hide hm
  clear hl hm
  by_cases hn : l.length = m.length
  case neg =>
    have q : ((l.length : Int) == (m.length : Int)) = false := by simp; omega
    have q' : ((l.length : Int) != (m.length : Int)) = true := by simp; omega
    have hv : eqB l m = false := by simp only [eqB, decide_eq_false_iff_not]; intro e; exact hn (by rw [e])
    have HV := hide hv
    clear hn hv
    go_enter Tryz.func15, Tryz.ntmps15
    go_wp2
    go_ret
    exact ⟨ret_bool HV.out.symm, Below.refl _ _⟩
  have q : ((l.length : Int) == (m.length : Int)) = true := by simp; omega
  have q' : ((l.length : Int) != (m.length : Int)) = false := by simp; omega
  have HN := hide hn
  clear hn
  go_enter Tryz.func15, Tryz.ntmps15
  go_wp2
  go_loopw [13] (fun v wr => ∃ k : Nat, k ≤ l.length ∧ v = .int .i64 k ∧ Below w.heap.size w wr ∧ Hid (∀ i (h : i < l.length) (h' : i < m.length), i < k → l[i] = m[i])) (fun v _ => l.length - (intOf v).toNat)
  case atStart => exact ⟨0, Nat.zero_le _, rfl, Below.refl _ _, hide (fun _ _ _ h => by omega)⟩
  case round =>
    obtain ⟨k, hk, rfl, hb, hno⟩ := hrel
    by_cases hlt : k < l.length
    · have hlt' : k < m.length := by rw [← HN.out]; exact hlt
      obtain ⟨b, off, rfl, hbl, hat⟩ := (H.out.below hb).2 (by omega)
      obtain ⟨b', off', rfl, hbl', hat'⟩ := (H'.out.below hb).2 (by omega)
      have c0 := hat k hlt
      have c1 := hat' k hlt'
      have g0 : (0 : Int) ≤ (k : Int) := by omega
      have g1 : (k : Int) < (l.length : Int) := by omega
      have g2 : (k : Int) < (m.length : Int) := by omega
      clear hat hat' q q'
      have HB := hide hb
      clear hb
      by_cases e : l[k] = m[k]
      · have e1 : (l[k] == m[k]) = true := by simpa using e
        have e2 : (l[k] != m[k]) = false := by simpa using e
        have E := hide e
        clear e
        go_wp2
        go_quiet (fail)
        go_wp2
        go_roundw
        case rel =>
          refine ⟨k + 1, by omega, by go_num, below_drewN HB.out _, hide fun i h h' hik => ?_⟩
          by_cases e : i = k
          · subst e; exact E.out
          · exact hno.out i h h' (by omega)
        case measure => simp [intOf]; omega
      · have e1 : (l[k] == m[k]) = false := by simpa using e
        have e2 : (l[k] != m[k]) = true := by simpa using e
        have hv : eqB l m = false := by simp only [eqB, decide_eq_false_iff_not]; intro h; exact e (by simp only [h])
        have HV := hide hv
        clear e hv
        go_wp2
        go_quiet (fail)
        go_wp2
        go_ret
        exact ⟨ret_bool HV.out.symm, below_drewN HB.out _⟩
    · have hv : eqB l m = true := by
        simp only [eqB, decide_eq_true_eq]
        exact List.ext_getElem HN.out (fun i h h' => hno.out i h h' (by omega))
      have HV := hide hv
      have HB := hide hb
      clear hv hb q q'
      go_wp2
      go_ret
      exact ⟨ret_bool HV.out.symm, HB.out⟩
end Go.Proofs.YtaaadejamjbcbaaGreatDoor

namespace Go.Proofs.YtaaadejamjbcbaaGreatDoor
open Go.RowKit

/-- the worlds in which the blocks of L are whole, and what was there in w is as it was -/
structure OwnW (w : World) (L : List (Nat × TypeId × Array Value)) where
  W : World
  own : Own w W L
theorem wp_region_own {P : Program} {id : Nat} {Q : Exit → Act → World → Prop} {a : Act} {w W : World} {L : List (Nat × TypeId × Array Value)} {l : List Oper} (hm : P.follows .mixedOrders = true) (hB : Region.lexB .any l.toArray = true) (hX : Own w W L)
    (h : wpQuiet P l.toArray (fun W' => ∃ x : OwnW w L, W' = x.W) (fun a' => ∀ W', (∃ x : OwnW w L, W' = x.W) → Q .normal a' W') l a) : (Code.region id l.toArray true).wp P Q a W :=
  wp_region_quiet (C := fun W' => ∃ x : OwnW w L, W' = x.W) hm hB ⟨⟨W.drew, hX.drew⟩, rfl⟩ (by simpa using h)
theorem own_call {P : Program} {f : FuncId} {args : Array Value} {w : World} {L : List (Nat × TypeId × Array Value)} {v : Value} {x : OwnW w L}
    (h : Calls P f args x.W fun e w' => e = .returned v ∧ Below x.W.heap.size x.W w') : Calls P f args x.W fun e w'' => e = .returned v ∧ ∃ y : OwnW w L, w'' = y.W :=
  h.mono fun _ w' ⟨he, hb⟩ => ⟨he, ⟨w', x.own.to hb⟩, rfl⟩
theorem own_same {P : Program} {f : FuncId} {args : Array Value} {w : World} {L : List (Nat × TypeId × Array Value)} {v : Value} {x : OwnW w L}
    (h : Calls P f args x.W fun e w' => e = .returned v ∧ x.W = w') : Calls P f args x.W fun e w'' => e = .returned v ∧ ∃ y : OwnW w L, w'' = y.W :=
  h.mono fun _ _ ⟨he, hb⟩ => ⟨he, x, hb.symm⟩
end Go.Proofs.YtaaadejamjbcbaaGreatDoor

namespace Go.Proofs.YtaaadejamjbcbaaGreatDoor
open Go Go.RowKit

section
variable {P : Program} {ops : Array Oper} {md : Region.Mode} {C : World → Prop} {n : Nat}
/-- so many picks, all out of the head, and then L -/
def picks (P : Program) (md : Region.Mode) (ops : Array Oper) (C : World → Prop) (n : Nat) (L : Array Bool → Act → Prop) : Nat → Array Bool → Act → Prop
  | 0, m, a => L m a
  | f + 1, m, a => Region.ready md ops m ≠ [] ∧ ∀ i ∈ Region.ready md ops m, i < n ∧ qOp P ops C i (picks P md ops C n L f (m.setIfInBounds i true)) a
theorem any_of_picks {L : Array Bool → Act → Prop} {g : Nat} {Q : Exit → Act → World → Prop} (h : ∀ m a w, C w → L m a → wpAny P md ops Q g m a w) (f : Nat) : ∀ m a w, C w → picks P md ops C n L f m a → wpAny P md ops Q (f + g) m a w := by
  induction f with
  | zero => intro m a w hw hp; rw [Nat.zero_add]; exact h m a w hw hp
  | succ f ih =>
    intro m a w hw hp
    rw [Nat.add_right_comm]
    refine ⟨fun e => absurd e hp.1, fun i hi => ?_⟩
    exact wpOp_of_qOp hw (fun a' w' hw' hp' => ih _ a' w' hw' hp') (hp.2 i hi).2
/-- what no longer waits for i -/
theorem not_on {m : Array Bool} {i j : Nat} (hi : i ∈ Region.ready md ops m) (hj : j ∈ Region.ready md ops m) : ∀ o, ops[j]? = some o → ∀ e ∈ o.after, Region.binds md e = true → e.on ≠ i := by
  intro o ho e he hb eq
  obtain ⟨_, o', ho', all⟩ := mem_ready.1 hj
  obtain rfl := Option.some.inj (ho.symm.trans ho')
  have q := all e he hb
  rw [eq, getD_both (mem_ready.1 hi).1] at q
  cases q
/-- one that may come up now may be taken first -/
theorem picks_take {L : Array Bool → Act → Prop} {i : Nat} {o : Oper} {v : Value} (ho : ops[i]? = some o) (hsel : Region.noSelect ops = true) (hsink : Region.sinkB md ops n = true) (hch : Region.chainB md ops n = true) (hn : n < ops.size) (hin : i < n)
    (hL : ∀ m a, L m a → ∀ j ∈ Region.ready md ops m, n ≤ j) (f : Nat) : ∀ m a, HeadInv md ops n m →
      (∀ j oj, ops[j]? = some oj → j ≠ i → m.getD j true = false → (∀ e ∈ oj.after, Region.binds md e = true → e.on ≠ i) → o.apart ops oj = true) →
      i ∈ Region.ready md ops m → YieldsIn P ops C o v a → picks P md ops C n L f (m.setIfInBounds i true) (a.put o.dst v) → picks P md ops C n L (f + 1) m a := by
  have sel := Region.noSelect_spec hsel
  induction f with
  | zero =>
    intro m a inv _ hi hy hp
    refine ⟨List.ne_nil_of_mem hi, fun j hj => ?_⟩
    by_cases e : j = i
    · subst e; exact ⟨hin, hy.qOp ho hp⟩
    · have h1 := hL _ _ hp j (ready_mono hj e)
      exact absurd hj (tail_waits hsink hch hn inv _ i rfl hin (mem_ready.1 hi).1 j h1)
  | succ f ih =>
    intro m a inv hap hi hy hp
    refine ⟨List.ne_nil_of_mem hi, fun j hj => ?_⟩
    by_cases e : j = i
    · subst e; exact ⟨hin, hy.qOp ho hp⟩
    · have hjn : j < n := Nat.lt_of_not_le fun h => tail_waits hsink hch hn inv _ i rfl hin (mem_ready.1 hi).1 j h hj
      obtain ⟨free, oj, hoj, _⟩ := mem_ready.1 hj
      have k := qOp_put hoj (hap j oj hoj e free (not_on hi hj oj hoj)) (fun cs b => sel i o cs b ho) (fun cs b => sel j oj cs b hoj) hy (hp.2 j (ready_mono hj e)).2
      refine ⟨hjn, qOp_mono (fun a' q => ih _ a' (inv.set hj hjn) (fun x ox hx hxi hxm hxe => ?_) (ready_mono hi (Ne.symm e)) q.1 ?_) k⟩
      · refine hap x ox hx hxi ?_ hxe
        by_cases ex : j = x
        · subst ex; exact free
        · rwa [getD_set_ne true ex] at hxm
      · rw [Array.setIfInBounds_comm _ _ e]; exact q.2
/-- the head in the order of the text -/
theorem picks_text {g : Nat} {T : Act → Prop} (hsel : Region.noSelect ops = true) (hsink : Region.sinkB md ops n = true) (hch : Region.chainB md ops n = true) (hn : n < ops.size) :
    ∀ (l : List Oper) (k : Nat) (m : Array Bool) (a : Act), (∀ j, j < l.length → l[j]? = ops[k + j]?) → k + l.length = n → HeadInv md ops n m → Region.lexHead md ops g l.length k m = true → wpQuiet P ops C T l a →
      picks P md ops C n (fun m' a' => Region.seqB md ops g n m' = true ∧ T a') l.length m a := by
  intro l
  induction l with
  | nil =>
    intro k m a _ hk _ hb hq
    obtain rfl : k = n := by simpa using hk
    exact ⟨by simpa [Region.lexHead] using hb, hq⟩
  | cons o l ih =>
    intro k m a hl hk inv hb hq
    have ho : ops[k]? = some o := by simpa using (hl 0 (by simp)).symm
    rw [List.length_cons] at hk
    simp only [List.length_cons, Region.lexHead, Bool.and_eq_true] at hb
    obtain ⟨⟨hr, hf⟩, hb⟩ := hb
    have hr : k ∈ Region.ready md ops m := by simpa using hr
    obtain ⟨v, hy, hrest⟩ := yieldsIn_of_qOp ho (show qOp P ops C k (wpQuiet P ops C T l) a by unfold qOp; rw [ho]; exact hq)
    refine picks_take ho hsel hsink hch hn (by omega) (fun m' a' h => seqB_ready h.1) l.length m a inv (Region.free_spec ho hf) hr hy ?_
    exact ih (k + 1) _ _ (fun j hj => by have := hl (j + 1) (by simpa using hj); rw [Nat.add_assoc, Nat.add_comm 1 j]; simpa using this) (by omega) (inv.set hr (by omega)) hb hrest
end
/-- a region whose last operations wait for all the others, which only read or call: in the order of the text -/
theorem wp_region_qtail {P : Program} {C : World → Prop} {id : Nat} {Q : Exit → Act → World → Prop} {a : Act} {w : World} {l : List Oper} (n : Nat) (hB : Region.lexTailB .any l.toArray n = true) (hm : P.follows .mixedOrders = true) (hC : C w.drew)
    (h : wpQuiet P l.toArray C (fun a' => ∀ w', C w' → wpList P l.toArray Q (l.drop n) a' w') (l.take n) a) : (Code.region id l.toArray true).wp P Q a w := by
  simp only [Region.lexTailB, Bool.and_eq_true, decide_eq_true_eq] at hB
  obtain ⟨⟨⟨⟨hsel, hn⟩, hs⟩, hc⟩, hx⟩ := hB
  have hn' : n < l.length := by simpa using hn
  have ht : (l.take n).length = n := by rw [List.length_take]; omega
  have hd : (l.drop n).length = l.toArray.size - n := by simp
  have inv : HeadInv .any l.toArray n (Array.replicate l.toArray.size false) :=
    ⟨by simp, fun j oj _ hl => (by rw [getD_replicate_false] at hl; cases hl), fun t _ ht => getD_in (by simpa using ht) (getD_replicate_false _ _)⟩
  have H := picks_text (md := .any) (g := l.toArray.size - n) hsel hs hc hn (l.take n) 0 _ a (fun j hj => by
    rw [ht] at hj
    simp [hj]) (by omega) inv (by rw [ht]; exact hx) h
  refine wp_region_any hm ?_
  have K := any_of_picks (Q := Q) (g := l.toArray.size - n) (fun m a' w' hw' hL => by
    have := wpAny_of_seq (md := .any) (Q' := Q) (l.drop n) n m a' w' (fun j => by simp [List.getElem?_drop]) (by rw [hd]; exact hL.1) (hL.2 w' hw')
    rwa [hd] at this) _ _ _ { w with drawn := w.drawn + 1 } hC H
  rw [ht, show n + (l.toArray.size - n) = l.toArray.size by omega] at K
  exact K
/-- the same at the class of the worlds in which the call's own blocks are whole -/
theorem wp_region_own_tail {P : Program} {id : Nat} {Q : Exit → Act → World → Prop} {a : Act} {w W : World} {L : List (Nat × TypeId × Array Value)} {l : List Oper} (n : Nat) (hB : Region.lexTailB .any l.toArray n = true) (hm : P.follows .mixedOrders = true) (hX : Own w W L)
    (h : wpQuiet P l.toArray (fun W' => ∃ x : OwnW w L, W' = x.W) (fun a' => ∀ W', (∃ x : OwnW w L, W' = x.W) → wpList P l.toArray Q (l.drop n) a' W') (l.take n) a) : (Code.region id l.toArray true).wp P Q a W :=
  wp_region_qtail n hB hm ⟨⟨W.drew, hX.drew⟩, rfl⟩ h
end Go.Proofs.YtaaadejamjbcbaaGreatDoor
