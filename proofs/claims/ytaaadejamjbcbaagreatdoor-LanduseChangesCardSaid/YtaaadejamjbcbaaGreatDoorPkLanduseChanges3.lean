/- Parts of one proof, joined: Small functions of the program's surfaces: small, right, point, corners, turn, triangle, side: what each returns; nothing that was there is turned. The program's triangle, separates, and the two functions that Check hands on: what each returns; nothing that was there is turned. Regions that draw their order, only read, and call functions that leave what was there as it is: one walk in the order of the text, in the class of the worlds in which the call's own blocks are whole. Small functions of the reference's surfaces: Turn, Spot, Point, Small, Corner, Triangle, turn: what each returns; nothing that was there is turned. The reference's Copy of a surface: a copy in memory of the call's own; nothing that was there is turned. The last step of a law's row, once for all laws: where the call answers true and nothing that was there has turned, the row's outcome is reached. Maps whose keys are points or pairs of integers and whose elements are bools, that the call made: look-up and store. -/
import Derived.Test.YtaaadejamjbcbaaGreatDoorPkLanduseChanges2
import Derived.Deep.RegionHeld3
import Derived.Deep.RegionWith
import Derived.Deep.QuietTactic
import Derived.BigQuiet
import Derived.Deep.RegionHeldLaw
import Derived.Deep.RegionLaw
import Derived.Maps.OwnOps
import Derived.DeepKeys5
import Derived.WideKeyPair
namespace Go.Proofs.YtaaadejamjbcbaaGreatDoor
open Go Go.RowKit

theorem cell_set2 {W : World} {b h : Nat} (hn : ¬ h = b) (u v : Value) (i : Nat) : ((W.setCell ⟨b, 0, none⟩ u).setCell ⟨b, 1, none⟩ v).drew.cell? ⟨h, i, none⟩ = W.cell? ⟨h, i, none⟩ :=
  World.cell?_of_block ((Below.heap_setCell (W.setCell ⟨b, 0, none⟩ u) ⟨b, 1, none⟩ v h hn).trans (Below.heap_setCell W ⟨b, 0, none⟩ u h hn))
def RetW (v : Value) (w : World) (e : Ending) (w' : World) : Prop := e = .returned v ∧ Below w.heap.size w w'
set_option maxHeartbeats 1000000 in
theorem mssmall_any (m : Msh) (a : MshA) (w : World) : Calls Tryz.prog 66 #[m.val a] w (RetW (.bool (smB m)) w) := by
  have X := (Own.start w).alloc (m.cells a) 25
  have hr := X.r1
  have E : Hid (smB m = (decide (m.ss.length ≤ 2000) && decide (m.fs.length ≤ 4000))) := hide rfl
  by_cases h1 : m.ss.length ≤ 2000 <;> by_cases h2 : m.fs.length ≤ 4000
  all_goals
    go_enter Tryz.func66, Tryz.ntmps66
    go_wp2
    go_ret
    exact ⟨ret_bool (by rw [E.out]; simp [h1, h2]; try omega), X.1⟩
set_option maxHeartbeats 1000000 in
theorem plvalid_any (p : Pnt) (w : World) : Calls Tryz.prog 86 #[p.val] w (RetW (.bool (inP p)) w) := by
  have X := (Own.start w).alloc #[.int .i64 p.x, .int .i64 p.y] 95
  have hr := X.r1
  have E : Hid (inP p = (decide (-16777216 ≤ p.x) && decide (p.x ≤ 16777216) && decide (-16777216 ≤ p.y) && decide (p.y ≤ 16777216))) := hide rfl
  have ways : decide (-16777216 ≤ p.x) = false ∨ (decide (-16777216 ≤ p.x) = true ∧ decide (p.x ≤ 16777216) = false) ∨ (decide (-16777216 ≤ p.x) = true ∧ decide (p.x ≤ 16777216) = true ∧ decide (-16777216 ≤ p.y) = false) ∨
      (decide (-16777216 ≤ p.x) = true ∧ decide (p.x ≤ 16777216) = true ∧ decide (-16777216 ≤ p.y) = true) := by
    cases decide (-16777216 ≤ p.x) <;> cases decide (p.x ≤ 16777216) <;> cases decide (-16777216 ≤ p.y) <;> simp
  rcases ways with q1 | ⟨q1, q2⟩ | ⟨q1, q2, q3⟩ | ⟨q1, q2, q3⟩
  all_goals
    go_enter Tryz.func86, Tryz.ntmps86
    go_wp2
    go_ret
    exact ⟨ret_bool (by rw [E.out]; simp [*]), X.1⟩
set_option maxHeartbeats 1000000 in
theorem msright_any (s : Spt) (w : World) : Calls Tryz.prog 67 #[s.val] w (RetW (.bool (okS s)) w) := by
  have X := (Own.start w).alloc #[.int .i64 s.x, .int .i64 s.y, .int .i64 s.z] 62
  have hr := X.r1
  have PV := hide (fun W => plvalid_any ⟨s.x, s.y⟩ W)
  have E : Hid (okS s = (inP ⟨s.x, s.y⟩ && decide (-4194304 ≤ s.z) && decide (s.z ≤ 4194304))) := hide rfl
  generalize inP ⟨s.x, s.y⟩ = b at *
  have ways : b = false ∨ (b = true ∧ decide (-4194304 ≤ s.z) = false) ∨ (b = true ∧ decide (-4194304 ≤ s.z) = true) := by
    cases b <;> cases decide (-4194304 ≤ s.z) <;> simp
  rcases ways with rfl | ⟨rfl, q2⟩ | ⟨rfl, q2⟩
  all_goals
    go_enter Tryz.func67, Tryz.ntmps67
    go_wp2_with fail
    refine (PV.out _).mono ?_
    rintro e w1 ⟨rfl, hb⟩
    replace X := X.to hb
    clear hr hb
    have hr := X.r1
    go_wp2
    go_ret
    exact ⟨ret_bool (by rw [E.out]; simp [*]), X.1⟩
set_option maxRecDepth 100000 in
set_option maxHeartbeats 2000000 in
theorem mspoint_any (m : Msh) (a : MshA) (i : Int) (w : World) (hm : MshSl w m a) (h0 : 0 ≤ i) (h1 : i < m.ss.length) : Calls Tryz.prog 68 #[m.val a, .int .i64 i] w (RetW (spA m.ss i).pt.val w) := by
  obtain ⟨k, rfl⟩ : ∃ k : Nat, i = (k : Int) := ⟨i.toNat, by omega⟩
  have hk : k < m.ss.length := by omega
  obtain ⟨A1, c1, A2, c2⟩ := a
  have hlen : m.ss.length ≤ 9223372036854775807 := hm.1.1.1
  obtain ⟨b, off, e, hbl, hat⟩ := hm.1.2 (by omega)
  have e' : A1 = some ⟨b, off, none⟩ := e
  subst e'
  obtain ⟨c0, d0, _⟩ := hat k hk
  have eS : spA m.ss (k : Int) = m.ss[k] := by simp [spA, hk]
  rw [eS]
  have X := ((Own.start w).alloc #[.slice (some ⟨b, off, none⟩) m.ss.length c1, .slice A2 m.fs.length c2] 25).alloc #[.int .i64 0, .int .i64 0] 95
  rw [World.size_alloc] at X
  have hr := X.r2
  have XB := hide X.1
  have g0 : (0 : Int) ≤ (k : Int) := by omega
  have g1 : (k : Int) < (m.ss.length : Int) := by omega
  have n1 : ¬ (w.heap.size = w.heap.size + 1) := by omega
  have n2 : ¬ (b = w.heap.size + 1) := by omega
  have n3 : ¬ (b = w.heap.size) := by omega
  clear hat X hm eS
  generalize m.ss[k] = s at *
  show Calls _ _ _ _ (RetW (.agg #[.int .i64 s.x, .int .i64 s.y]) w)
  go_enter Tryz.func68, Tryz.ntmps68
  go_wp2
  go_region_held3 (fun w' => w'.cell? ⟨w.heap.size, 0, none⟩ = some (.slice (some ⟨b, off, none⟩) m.ss.length c1) ∧ w'.cell? ⟨b, off + k * 3, none⟩ = some (.int .i64 s.x) ∧ w'.cell? ⟨b, off + k * 3 + 1, none⟩ = some (.int .i64 s.y)) (go_keep) (fail)
  go_wp2
  exact bodyPost_ret (v := .agg #[.int .i64 s.x, .int .i64 s.y]) (by simp [results, Tryz.results68, go_sem]) rfl ⟨rfl, by have HX := XB.out; have hz := HX.size; go_grown⟩
set_option maxHeartbeats 1000000 in
theorem mscorners_any (f : Fce) (w : World) : Calls Tryz.prog 69 #[f.val] w (RetW (.agg #[.int .i64 f.a, .int .i64 f.b, .int .i64 f.c]) w) := by
  have X := ((Own.start w).alloc #[.int .i64 f.a, .int .i64 f.b, .int .i64 f.c, .int .i64 f.k] 65).alloc #[.int .i64 0, .int .i64 0, .int .i64 0] 125
  rw [World.size_alloc] at X
  have hr := X.r2
  have XB := hide X.1
  go_enter Tryz.func69, Tryz.ntmps69
  go_wp2
  exact bodyPost_ret (v := .agg #[.int .i64 f.a, .int .i64 f.b, .int .i64 f.c]) (by simp [results, Tryz.results69, go_sem]) rfl ⟨rfl, by have HX := XB.out; have hz := HX.size; go_grown⟩
set_option maxHeartbeats 1000000 in
theorem msturn_any (a b c : Pnt) (w : World) (ha : a.in) (hb : b.in) (hc : c.in) : Calls Tryz.prog 54 #[a.val, b.val, c.val] w (RetW (.int .i64 (trn a b c)) w) := by
  have X := (((Own.start w).alloc #[.int .i64 a.x, .int .i64 a.y] 95).alloc #[.int .i64 b.x, .int .i64 b.y] 95).alloc #[.int .i64 c.x, .int .i64 c.y] 95
  simp only [World.size_alloc] at X
  have hr := X.r3
  have XB := hide X.1
  obtain ⟨m1, m2⟩ := trn_bd ha hb hc
  obtain ⟨⟨a1, a2⟩, a3, a4⟩ := ha
  obtain ⟨⟨b1, b2⟩, b3, b4⟩ := hb
  obtain ⟨⟨c1, c2⟩, c3, c4⟩ := hc
  have E : Hid (trn a b c = (b.x - a.x) * (c.y - a.y) - (b.y - a.y) * (c.x - a.x)) := hide rfl
  generalize trn a b c = t at *
  have e1 := IntWalk.i64_in (b.x - a.x) (by omega)
  have e2 := IntWalk.i64_in (c.y - a.y) (by omega)
  have e3 := IntWalk.i64_in (b.y - a.y) (by omega)
  have e4 := IntWalk.i64_in (c.x - a.x) (by omega)
  obtain ⟨p, hp⟩ : ∃ p, p = (b.x - a.x) * (c.y - a.y) := ⟨_, rfl⟩
  obtain ⟨q, hq⟩ : ∃ q, q = (b.y - a.y) * (c.x - a.x) := ⟨_, rfl⟩
  rw [← hp, ← hq] at E
  rw [← hp] at m1
  rw [← hq] at m2
  have w1 : IntKind.i64.wrap ((b.x - a.x) * (c.y - a.y)) = p := by rw [← hp]; exact IntWalk.i64_in _ (by omega)
  have w2 : IntKind.i64.wrap ((b.y - a.y) * (c.x - a.x)) = q := by rw [← hq]; exact IntWalk.i64_in _ (by omega)
  have w3 := IntWalk.i64_in (p - q) (by omega)
  clear hp hq X
  go_enter Tryz.func54, Tryz.ntmps54
  go_wp2
  go_ret
  exact ⟨by rw [E.out]; rfl, XB.out⟩
set_option maxRecDepth 100000 in
set_option maxHeartbeats 2000000 in
/-- a side: its number from 0 to 2 -/
theorem msside_any (f : Fce) (k : Nat) (w : World) (hk : k < 3) : Calls Tryz.prog 71 #[f.val, .int .i64 k] w (RetW (.agg #[.int .i64 (sdA f k).1, .int .i64 (sdA f k).2]) w) := by
  have X := ((Own.start w).alloc #[.int .i64 f.a, .int .i64 f.b, .int .i64 f.c, .int .i64 f.k] 65).alloc #[.int .i64 0, .int .i64 0] 127
  rw [World.size_alloc] at X
  have hr := X.r2
  have CN := hide (fun W => mscorners_any f W)
  obtain rfl | rfl | rfl : k = 0 ∨ k = 1 ∨ k = 2 := by omega
  · clear hk
    show Calls _ _ #[f.val, .int .i64 0] w (RetW (.agg #[.int .i64 f.a, .int .i64 f.b]) w)
    go_enter Tryz.func71, Tryz.ntmps71
    go_wp2_with fail
    refine (CN.out _).mono ?_
    rintro e w1 ⟨rfl, hb⟩
    have n0 : w.heap.size + 1 < w1.heap.size := by have hz := hb.size; simp at hz; omega
    replace X := (X.to hb).alloc #[.int .i64 f.a, .int .i64 f.b, .int .i64 f.c] 125
    clear hr hb
    have XB := hide X.1
    have n1 : ¬ (w1.heap.size = w.heap.size + 1) := by omega
    have s1 : IntKind.i64.wrap 1 = 1 := by decide
    have s2 : (1 : Int).tmod 3 = 1 := by decide
    go_wp2
    generalize w1.alloc (.cells #[.int .i64 f.a, .int .i64 f.b, .int .i64 f.c] 125) = W at *
    have hr := X.r3
    have KP : ∀ u v : Value, ((W.setCell ⟨w.heap.size + 1, 0, none⟩ u).setCell ⟨w.heap.size + 1, 1, none⟩ v).drew.cell? ⟨w1.heap.size, 0, none⟩ = some (.int .i64 f.a) ∧ ((W.setCell ⟨w.heap.size + 1, 0, none⟩ u).setCell ⟨w.heap.size + 1, 1, none⟩ v).drew.cell? ⟨w1.heap.size, 1, none⟩ = some (.int .i64 f.b) ∧
        ((W.setCell ⟨w.heap.size + 1, 0, none⟩ u).setCell ⟨w.heap.size + 1, 1, none⟩ v).drew.cell? ⟨w1.heap.size, 2, none⟩ = some (.int .i64 f.c) := fun u v => ⟨(cell_set2 n1 _ _ _).trans (hr.1.1 0), (cell_set2 n1 _ _ _).trans (hr.1.1 1), (cell_set2 n1 _ _ _).trans (hr.1.1 2)⟩
    clear X
    go_region_held3 (fun w' => w'.cell? ⟨w1.heap.size, 0, none⟩ = some (.int .i64 f.a) ∧ w'.cell? ⟨w1.heap.size, 1, none⟩ = some (.int .i64 f.b) ∧ w'.cell? ⟨w1.heap.size, 2, none⟩ = some (.int .i64 f.c)) (first | go_keep | exact KP _ _) (fail)
    go_wp2
    exact bodyPost_ret (v := .agg #[.int .i64 f.a, .int .i64 f.b]) (by simp [results, Tryz.results71, hr, go_sem]) rfl ⟨rfl, by have HX := XB.out; have hz := HX.size; go_grown⟩
  · clear hk
    show Calls _ _ #[f.val, .int .i64 1] w (RetW (.agg #[.int .i64 f.b, .int .i64 f.c]) w)
    go_enter Tryz.func71, Tryz.ntmps71
    go_wp2_with fail
    refine (CN.out _).mono ?_
    rintro e w1 ⟨rfl, hb⟩
    have n0 : w.heap.size + 1 < w1.heap.size := by have hz := hb.size; simp at hz; omega
    replace X := (X.to hb).alloc #[.int .i64 f.a, .int .i64 f.b, .int .i64 f.c] 125
    clear hr hb
    have XB := hide X.1
    have n1 : ¬ (w1.heap.size = w.heap.size + 1) := by omega
    have s1 : IntKind.i64.wrap 2 = 2 := by decide
    have s2 : (2 : Int).tmod 3 = 2 := by decide
    go_wp2
    generalize w1.alloc (.cells #[.int .i64 f.a, .int .i64 f.b, .int .i64 f.c] 125) = W at *
    have hr := X.r3
    have KP : ∀ u v : Value, ((W.setCell ⟨w.heap.size + 1, 0, none⟩ u).setCell ⟨w.heap.size + 1, 1, none⟩ v).drew.cell? ⟨w1.heap.size, 0, none⟩ = some (.int .i64 f.a) ∧ ((W.setCell ⟨w.heap.size + 1, 0, none⟩ u).setCell ⟨w.heap.size + 1, 1, none⟩ v).drew.cell? ⟨w1.heap.size, 1, none⟩ = some (.int .i64 f.b) ∧
        ((W.setCell ⟨w.heap.size + 1, 0, none⟩ u).setCell ⟨w.heap.size + 1, 1, none⟩ v).drew.cell? ⟨w1.heap.size, 2, none⟩ = some (.int .i64 f.c) := fun u v => ⟨(cell_set2 n1 _ _ _).trans (hr.1.1 0), (cell_set2 n1 _ _ _).trans (hr.1.1 1), (cell_set2 n1 _ _ _).trans (hr.1.1 2)⟩
    clear X
    go_region_held3 (fun w' => w'.cell? ⟨w1.heap.size, 0, none⟩ = some (.int .i64 f.a) ∧ w'.cell? ⟨w1.heap.size, 1, none⟩ = some (.int .i64 f.b) ∧ w'.cell? ⟨w1.heap.size, 2, none⟩ = some (.int .i64 f.c)) (first | go_keep | exact KP _ _) (fail)
    go_wp2
    exact bodyPost_ret (v := .agg #[.int .i64 f.b, .int .i64 f.c]) (by simp [results, Tryz.results71, hr, go_sem]) rfl ⟨rfl, by have HX := XB.out; have hz := HX.size; go_grown⟩
  · clear hk
    show Calls _ _ #[f.val, .int .i64 2] w (RetW (.agg #[.int .i64 f.c, .int .i64 f.a]) w)
    go_enter Tryz.func71, Tryz.ntmps71
    go_wp2_with fail
    refine (CN.out _).mono ?_
    rintro e w1 ⟨rfl, hb⟩
    have n0 : w.heap.size + 1 < w1.heap.size := by have hz := hb.size; simp at hz; omega
    replace X := (X.to hb).alloc #[.int .i64 f.a, .int .i64 f.b, .int .i64 f.c] 125
    clear hr hb
    have XB := hide X.1
    have n1 : ¬ (w1.heap.size = w.heap.size + 1) := by omega
    have s1 : IntKind.i64.wrap 3 = 3 := by decide
    have s2 : (3 : Int).tmod 3 = 0 := by decide
    go_wp2
    generalize w1.alloc (.cells #[.int .i64 f.a, .int .i64 f.b, .int .i64 f.c] 125) = W at *
    have hr := X.r3
    have KP : ∀ u v : Value, ((W.setCell ⟨w.heap.size + 1, 0, none⟩ u).setCell ⟨w.heap.size + 1, 1, none⟩ v).drew.cell? ⟨w1.heap.size, 0, none⟩ = some (.int .i64 f.a) ∧ ((W.setCell ⟨w.heap.size + 1, 0, none⟩ u).setCell ⟨w.heap.size + 1, 1, none⟩ v).drew.cell? ⟨w1.heap.size, 1, none⟩ = some (.int .i64 f.b) ∧
        ((W.setCell ⟨w.heap.size + 1, 0, none⟩ u).setCell ⟨w.heap.size + 1, 1, none⟩ v).drew.cell? ⟨w1.heap.size, 2, none⟩ = some (.int .i64 f.c) := fun u v => ⟨(cell_set2 n1 _ _ _).trans (hr.1.1 0), (cell_set2 n1 _ _ _).trans (hr.1.1 1), (cell_set2 n1 _ _ _).trans (hr.1.1 2)⟩
    clear X
    go_region_held3 (fun w' => w'.cell? ⟨w1.heap.size, 0, none⟩ = some (.int .i64 f.a) ∧ w'.cell? ⟨w1.heap.size, 1, none⟩ = some (.int .i64 f.b) ∧ w'.cell? ⟨w1.heap.size, 2, none⟩ = some (.int .i64 f.c)) (first | go_keep | exact KP _ _) (fail)
    go_wp2
    exact bodyPost_ret (v := .agg #[.int .i64 f.c, .int .i64 f.a]) (by simp [results, Tryz.results71, hr, go_sem]) rfl ⟨rfl, by have HX := XB.out; have hz := HX.size; go_grown⟩
end Go.Proofs.YtaaadejamjbcbaaGreatDoor

namespace Go.Proofs.YtaaadejamjbcbaaGreatDoor
open Go Go.RowKit

theorem below_go {a w w' : World} (h : Below a.heap.size a w) (k : Below w.heap.size w w') : Below a.heap.size a w' := below_via h h.size k
set_option maxRecDepth 100000 in
set_option maxHeartbeats 4000000 in
theorem mstri_any (m : Msh) (a : MshA) (f : Fce) (w : World) (hm : MshSl w m a) (ha : 0 ≤ f.a ∧ f.a < m.ss.length) (hb : 0 ≤ f.b ∧ f.b < m.ss.length) (hc : 0 ≤ f.c ∧ f.c < m.ss.length) :
    Calls Tryz.prog 53 #[m.val a, f.val] w (RetW (.agg (triA m.ss f).cells.toArray) w) := by
  have X := (((Own.start w).alloc (m.cells a) 25).alloc #[.int .i64 f.a, .int .i64 f.b, .int .i64 f.c, .int .i64 f.k] 65).alloc #[.int .i64 0, .int .i64 0, .int .i64 0, .int .i64 0, .int .i64 0, .int .i64 0] 102
  simp only [World.size_alloc] at X
  have HM := hide hm
  obtain ⟨A1, c1, A2, c2⟩ := a
  have PA := hide (fun W h => mspoint_any m ⟨A1, c1, A2, c2⟩ f.a W h ha.1 ha.2)
  have PB := hide (fun W h => mspoint_any m ⟨A1, c1, A2, c2⟩ f.b W h hb.1 hb.2)
  have PC := hide (fun W h => mspoint_any m ⟨A1, c1, A2, c2⟩ f.c W h hc.1 hc.2)
  have et : Hid ((triA m.ss f).cells = [.int .i64 (spA m.ss f.a).pt.x, .int .i64 (spA m.ss f.a).pt.y, .int .i64 (spA m.ss f.b).pt.x, .int .i64 (spA m.ss f.b).pt.y, .int .i64 (spA m.ss f.c).pt.x, .int .i64 (spA m.ss f.c).pt.y]) := hide rfl
  generalize (triA m.ss f).cells = tc at *
  generalize (spA m.ss f.a).pt = p at *
  generalize (spA m.ss f.b).pt = q at *
  generalize (spA m.ss f.c).pt = r at *
  unfold RetW at PA PB PC
  clear hm ha hb hc
  go_enter Tryz.func53, Tryz.ntmps53
  go_wp2
  generalize (((w.alloc (.cells #[.slice A1 m.ss.length c1, .slice A2 m.fs.length c2] 25)).alloc (.cells #[.int .i64 f.a, .int .i64 f.b, .int .i64 f.c, .int .i64 f.k] 65)).alloc (.cells #[.int .i64 0, .int .i64 0, .int .i64 0, .int .i64 0, .int .i64 0, .int .i64 0] 102)) = W at *
  have hr := X.r3
  have HX := hide X
  have HMW := hide (fun W' (h : Below W.heap.size W W') => HM.out.below (below_via HX.out.1 HX.out.1.size h))
  have KC := hide (fun W' (h : Below W.heap.size W W') => And.intro ((h.cell (p := ⟨w.heap.size, 0, none⟩) hr.2.2.2.2).trans (hr.2.2.1 0)) (And.intro ((h.cell (p := ⟨w.heap.size, 1, none⟩) hr.2.2.2.2).trans (hr.2.2.1 1))
    (And.intro ((h.cell (p := ⟨w.heap.size + 1, 0, none⟩) hr.2.1.2.2).trans (hr.2.1.1 0)) (And.intro ((h.cell (p := ⟨w.heap.size + 1, 1, none⟩) hr.2.1.2.2).trans (hr.2.1.1 1)) ((h.cell (p := ⟨w.heap.size + 1, 2, none⟩) hr.2.1.2.2).trans (hr.2.1.1 2))))))
  clear X
  have n1 : ¬ (w.heap.size = w.heap.size + 1 + 1) := by omega
  have n2 : ¬ (w.heap.size + 1 + 1 = w.heap.size) := by omega
  go_region_held3 (fun w' => w'.cell? ⟨w.heap.size, 0, none⟩ = some (.slice A1 m.ss.length c1) ∧ w'.cell? ⟨w.heap.size, 1, none⟩ = some (.slice A2 m.fs.length c2) ∧ w'.cell? ⟨w.heap.size + 1, 0, none⟩ = some (.int .i64 f.a) ∧ w'.cell? ⟨w.heap.size + 1, 1, none⟩ = some (.int .i64 f.b) ∧ w'.cell? ⟨w.heap.size + 1, 2, none⟩ = some (.int .i64 f.c)) (go_keep)
    (first
      | (go_at_call 68; (first | (with_reducible refine Calls.mono (PA.out _ (HMW.out _ (by go_grown))) ?_) | (with_reducible refine Calls.mono (PB.out _ (HMW.out _ (by go_grown))) ?_) | (with_reducible refine Calls.mono (PC.out _ (HMW.out _ (by go_grown))) ?_)); (rintro e w1 ⟨rfl, hb⟩); have hw := below_go (show Below W.heap.size W _ from by go_grown) hb; have hr2 := (HX.out.to hw).r3; obtain ⟨q1, q2, q3, q4, q5⟩ := KC.out _ hw))
  all_goals
    have XB := hide (HX.out.to hw).1
    go_wp2
    exact bodyPost_ret (v := .agg #[.int .i64 p.x, .int .i64 p.y, .int .i64 q.x, .int .i64 q.y, .int .i64 r.x, .int .i64 r.y]) (by simp [results, Tryz.results53, hr2, go_sem]) rfl ⟨by rw [et.out], by have HX := XB.out; have hz := HX.size; go_grown⟩
end Go.Proofs.YtaaadejamjbcbaaGreatDoor

namespace Go.Proofs.YtaaadejamjbcbaaGreatDoor
open Go.RowKit

/-- the worlds in which the blocks of L are whole, and what was there in w is as it was -/
structure OwnW (w : World) (L : List (Nat × TypeId × Array Value)) where
  W : World
  own : Own w W L
theorem wp_region_own {P : Program} {id : Nat} {Q : Exit → Act → World → Prop} {a : Act} {w W : World} {L : List (Nat × TypeId × Array Value)} {l : List Oper} (hm : P.follows .mixedOrders = true) (hB : Region.lexB .any l.toArray = true) (hX : Own w W L)
    (h : wpQuiet P l.toArray (fun W' => ∃ x : OwnW w L, W' = x.W) (fun a' => ∀ W', (∃ x : OwnW w L, W' = x.W) → Q .normal a' W') l a) : (Code.region id l.toArray true).wp P Q a W :=
  wp_region_quiet (C := fun W' => ∃ x : OwnW w L, W' = x.W) hm hB ⟨⟨W.drew, hX.drew⟩, rfl⟩ (by simpa using h)
theorem own_call {P : Program} {f : FuncId} {args : Array Value} {w : World} {L : List (Nat × TypeId × Array Value)} {v : Value} {x : OwnW w L}
    (h : Calls P f args x.W fun e w' => e = .returned v ∧ Below x.W.heap.size x.W w') : Calls P f args x.W fun e w'' => e = .returned v ∧ ∃ y : OwnW w L, w'' = y.W :=
  h.mono fun _ w' ⟨he, hb⟩ => ⟨he, ⟨w', x.own.to hb⟩, rfl⟩
theorem own_same {P : Program} {f : FuncId} {args : Array Value} {w : World} {L : List (Nat × TypeId × Array Value)} {v : Value} {x : OwnW w L}
    (h : Calls P f args x.W fun e w' => e = .returned v ∧ x.W = w') : Calls P f args x.W fun e w'' => e = .returned v ∧ ∃ y : OwnW w L, w'' = y.W :=
  h.mono fun _ _ ⟨he, hb⟩ => ⟨he, x, hb.symm⟩
end Go.Proofs.YtaaadejamjbcbaaGreatDoor

namespace Go.Proofs.YtaaadejamjbcbaaGreatDoor
open Go Go.RowKit

set_option maxHeartbeats 1000000 in
theorem mrsmall_any (m : Msh) (a : MshA) (w : World) : Calls Tryz.prog 26 #[m.val a] w (RetW (.bool (smB m)) w) := by
  have X := (Own.start w).alloc (m.cells a) 25
  have hr := X.r1
  have E : Hid (smB m = (decide (m.ss.length ≤ 2000) && decide (m.fs.length ≤ 4000))) := hide rfl
  by_cases h1 : m.ss.length ≤ 2000 <;> by_cases h2 : m.fs.length ≤ 4000
  all_goals
    go_enter Tryz.func26, Tryz.ntmps26
    go_wp2
    go_ret
    exact ⟨ret_bool (by rw [E.out]; simp [h1, h2]; try omega), X.1⟩
set_option maxHeartbeats 1000000 in
theorem mrturn_any (a b c : Pnt) (w : World) (ha : a.in) (hb : b.in) (hc : c.in) : Calls Tryz.prog 77 #[a.val, b.val, c.val] w (RetW (.int .i64 (trn a b c)) w) := by
  have X := (((Own.start w).alloc #[.int .i64 a.x, .int .i64 a.y] 95).alloc #[.int .i64 b.x, .int .i64 b.y] 95).alloc #[.int .i64 c.x, .int .i64 c.y] 95
  simp only [World.size_alloc] at X
  have hr := X.r3
  have XB := hide X.1
  obtain ⟨m1, m2⟩ := trn_bd ha hb hc
  obtain ⟨⟨a1, a2⟩, a3, a4⟩ := ha
  obtain ⟨⟨b1, b2⟩, b3, b4⟩ := hb
  obtain ⟨⟨c1, c2⟩, c3, c4⟩ := hc
  have E : Hid (trn a b c = (b.x - a.x) * (c.y - a.y) - (b.y - a.y) * (c.x - a.x)) := hide rfl
  generalize trn a b c = t at *
  have e1 := IntWalk.i64_in (b.x - a.x) (by omega)
  have e2 := IntWalk.i64_in (c.y - a.y) (by omega)
  have e3 := IntWalk.i64_in (b.y - a.y) (by omega)
  have e4 := IntWalk.i64_in (c.x - a.x) (by omega)
  obtain ⟨p, hp⟩ : ∃ p, p = (b.x - a.x) * (c.y - a.y) := ⟨_, rfl⟩
  obtain ⟨q, hq⟩ : ∃ q, q = (b.y - a.y) * (c.x - a.x) := ⟨_, rfl⟩
  rw [← hp, ← hq] at E
  rw [← hp] at m1
  rw [← hq] at m2
  have w1 : IntKind.i64.wrap ((b.x - a.x) * (c.y - a.y)) = p := by rw [← hp]; exact IntWalk.i64_in _ (by omega)
  have w2 : IntKind.i64.wrap ((b.y - a.y) * (c.x - a.x)) = q := by rw [← hq]; exact IntWalk.i64_in _ (by omega)
  have w3 := IntWalk.i64_in (p - q) (by omega)
  clear hp hq X
  go_enter Tryz.func77, Tryz.ntmps77
  go_wp2
  go_ret
  exact ⟨by rw [E.out]; rfl, XB.out⟩
set_option maxHeartbeats 2000000 in
theorem mrspot_any (x y z : Int) (w : World) : Calls Tryz.prog 44 #[.agg #[.int .i64 x, .int .i64 y, .int .i64 z]] w (RetW (.bool (okS ⟨x, y, z⟩)) w) := by
  have X := (Own.start w).alloc #[.int .i64 x, .int .i64 y, .int .i64 z] 62
  have hr := X.r1
  have E : Hid (okS ⟨x, y, z⟩ = (decide (-16777216 ≤ x) && decide (x ≤ 16777216) && decide (-16777216 ≤ y) && decide (y ≤ 16777216) && decide (-4194304 ≤ z) && decide (z ≤ 4194304))) := hide rfl
  have ways : decide (-16777216 ≤ x) = false ∨ (decide (-16777216 ≤ x) = true ∧ decide (x ≤ 16777216) = false) ∨ (decide (-16777216 ≤ x) = true ∧ decide (x ≤ 16777216) = true ∧ decide (-16777216 ≤ y) = false) ∨
      (decide (-16777216 ≤ x) = true ∧ decide (x ≤ 16777216) = true ∧ decide (-16777216 ≤ y) = true ∧ decide (y ≤ 16777216) = false) ∨
      (decide (-16777216 ≤ x) = true ∧ decide (x ≤ 16777216) = true ∧ decide (-16777216 ≤ y) = true ∧ decide (y ≤ 16777216) = true ∧ decide (-4194304 ≤ z) = false) ∨
      (decide (-16777216 ≤ x) = true ∧ decide (x ≤ 16777216) = true ∧ decide (-16777216 ≤ y) = true ∧ decide (y ≤ 16777216) = true ∧ decide (-4194304 ≤ z) = true) := by
    cases decide (-16777216 ≤ x) <;> cases decide (x ≤ 16777216) <;> cases decide (-16777216 ≤ y) <;> cases decide (y ≤ 16777216) <;> cases decide (-4194304 ≤ z) <;> simp
  rcases ways with q1 | ⟨q1, q2⟩ | ⟨q1, q2, q3⟩ | ⟨q1, q2, q3, q4⟩ | ⟨q1, q2, q3, q4, q5⟩ | ⟨q1, q2, q3, q4, q5⟩
  all_goals
    go_enter Tryz.func44, Tryz.ntmps44
    go_wp2
    go_ret
    exact ⟨ret_bool (by rw [E.out]; simp [*]), X.1⟩
set_option maxHeartbeats 1000000 in
theorem mrpoint_any (x y z : Int) (w : World) : Calls Tryz.prog 46 #[.agg #[.int .i64 x, .int .i64 y, .int .i64 z]] w (RetW (.agg #[.int .i64 x, .int .i64 y]) w) := by
  have X := ((Own.start w).alloc #[.int .i64 x, .int .i64 y, .int .i64 z] 62).alloc #[.int .i64 0, .int .i64 0] 95
  rw [World.size_alloc] at X
  have hr := X.r2
  have XB := hide X.1
  go_enter Tryz.func46, Tryz.ntmps46
  go_wp2
  exact bodyPost_ret (v := .agg #[.int .i64 x, .int .i64 y]) (by simp [results, Tryz.results46, go_sem]) rfl ⟨rfl, by have HX := XB.out; have hz := HX.size; go_grown⟩
/-- a corner of a face, counted around -/
def cor (f : Fce) : Nat → Int
  | 0 => f.a
  | 1 => f.b
  | 2 => f.c
  | _ => f.a
set_option maxHeartbeats 2000000 in
theorem mrcorner_any (a b c d : Int) (k : Nat) (w : World) (hk : k ≤ 3) : Calls Tryz.prog 78 #[.agg #[.int .i64 a, .int .i64 b, .int .i64 c, .int .i64 d], .int .i64 k] w (RetW (.int .i64 (cor ⟨a, b, c, d⟩ k)) w) := by
  have X := (Own.start w).alloc #[.int .i64 a, .int .i64 b, .int .i64 c, .int .i64 d] 65
  have hr := X.r1
  have XB := hide X.1
  have s0 : (0 : Int).tmod 3 = 0 := by decide
  have s1 : (1 : Int).tmod 3 = 1 := by decide
  have s2 : (2 : Int).tmod 3 = 2 := by decide
  have s3 : (3 : Int).tmod 3 = 0 := by decide
  obtain rfl | rfl | rfl | rfl : k = 0 ∨ k = 1 ∨ k = 2 ∨ k = 3 := by omega
  · show Calls _ _ #[.agg #[.int .i64 a, .int .i64 b, .int .i64 c, .int .i64 d], .int .i64 0] w (RetW (.int .i64 a) w)
    go_enter Tryz.func78, Tryz.ntmps78
    go_wp2
    go_ret
    exact ⟨rfl, by have HX := XB.out; have hz := HX.size; go_grown⟩
  · show Calls _ _ #[.agg #[.int .i64 a, .int .i64 b, .int .i64 c, .int .i64 d], .int .i64 1] w (RetW (.int .i64 b) w)
    go_enter Tryz.func78, Tryz.ntmps78
    go_wp2
    go_ret
    exact ⟨rfl, by have HX := XB.out; have hz := HX.size; go_grown⟩
  · show Calls _ _ #[.agg #[.int .i64 a, .int .i64 b, .int .i64 c, .int .i64 d], .int .i64 2] w (RetW (.int .i64 c) w)
    go_enter Tryz.func78, Tryz.ntmps78
    go_wp2
    go_ret
    exact ⟨rfl, by have HX := XB.out; have hz := HX.size; go_grown⟩
  · show Calls _ _ #[.agg #[.int .i64 a, .int .i64 b, .int .i64 c, .int .i64 d], .int .i64 3] w (RetW (.int .i64 a) w)
    go_enter Tryz.func78, Tryz.ntmps78
    go_wp2
    go_ret
    exact ⟨rfl, by have HX := XB.out; have hz := HX.size; go_grown⟩
/-- a triangle in a new block -/
def TriPost (t : Tri) (w : World) (e : Ending) (w' : World) : Prop := ∃ g, e = .returned (.slice (some ⟨g, 0, none⟩) 3 3) ∧ Blk w' g 95 t.cells.toArray ∧ w.heap.size ≤ g ∧ Below w.heap.size w w'
end Go.Proofs.YtaaadejamjbcbaaGreatDoor

namespace Go.Proofs.YtaaadejamjbcbaaGreatDoor
open Go Go.RowKit

theorem empty_own {w : World} {g : Nat} {t : TypeId} {B sz : Nat} (h : Blk w g t #[]) (hB : B ≤ g) : w.ownsRow B t sz (.slice (some ⟨g, 0, none⟩) 0 0) 0 [] :=
  ⟨by simp, .inr ⟨g, 0, #[], rfl, hB, h, Nat.le_refl _, Nat.zero_le _, by simp, by simp⟩⟩
theorem SptSl.reads {w : World} {A : Option Addr} {l : List Spt} (h : SptSl w A l) : Reads w w.heap.size 3 A l.length (flatSpt l) :=
  ⟨flatSpt_len l, fun hl => by
    obtain ⟨b, off, e, hb, hat⟩ := h.2 hl
    refine ⟨⟨b, off, none⟩, e, hb, fun j u hu => ?_⟩
    rw [show (⟨b, off, none⟩ : Addr).add j = ⟨b, off + j, none⟩ by unfold Addr.add; split <;> simp_all]
    exact SptSl.cells hat j u hu⟩
theorem FceSl.reads {w : World} {A : Option Addr} {l : List Fce} (h : FceSl w A l) : Reads w w.heap.size 4 A l.length (flatFce l) :=
  ⟨flatFce_len l, fun hl => by
    obtain ⟨b, off, e, hb, hat⟩ := h.2 hl
    refine ⟨⟨b, off, none⟩, e, hb, fun j u hu => ?_⟩
    rw [show (⟨b, off, none⟩ : Addr).add j = ⟨b, off + j, none⟩ by unfold Addr.add; split <;> simp_all]
    exact FceSl.cells hat j u hu⟩
theorem rows_neC {W : World} {B B' e e' sz sz' n n' : Nat} {v v' : Value} {xs xs' : List Value} (h : W.ownsRow B e sz v n xs) (h' : W.ownsRow B' e' sz' v' n' xs') (hne : e ≠ e') : v.ownBlock = none ∨ v.ownBlock ≠ v'.ownBlock := by
  rcases h.2 with ⟨rfl, _⟩ | ⟨g, cap, cur, rfl, _, hg, _⟩
  · exact .inl rfl
  · rcases h'.2 with ⟨rfl, _⟩ | ⟨g', cap', cur', rfl, _, hg', _⟩
    · exact .inr (by simp [Value.ownBlock])
    · refine .inr fun e2 => ?_
      have e3 : g = g' := by simpa [Value.ownBlock] using e2
      rw [e3, hg'] at hg
      simp at hg
      exact hne hg.2.symm
/-- append of all that a slice holds to an empty row of the call's own -/
theorem cp_step {P : Program} {w W : World} {L : List (Nat × TypeId × Array Value)} {e sz g' g : Nat} {ops : Array Oper} {o : Oper} {a : Act} {K : Act → World → Prop} {Q : Exit → Act → World → Prop} {E : Prop}
    (X : Own w W ((g', e, #[]) :: L)) (hty : ∀ x ∈ L, e ≠ x.2.1) {A : Option Addr} {n c : Nat} {news : List Value} (hR : Reads w w.heap.size sz A n news)
    (hgd : o.guard = none) (s x : Operand) (t : TypeId) (ho : o.op = .call { callee := .builtin .append, args := #[s, x], argTypes := #[t, t] })
    (i : TypeInfo) (z : Value) (bytes : Nat) (ht : P.underlying t = some (.slice e)) (hi : P.info? e = some i) (hz : i.zero = some z)
    (hsize : i.size = sz) (hby : i.bytes = bytes) (hzs : z.cells.size = sz) (hpos : 0 < sz) (hs : a.eval s = .slice (some ⟨g, 0, none⟩) 0 0) (hx : a.eval x = .slice A n c) (hgg : g' = g) (hgw : w.heap.size ≤ g) (h1 : ∀ u ∈ news, u.oneCell' = true)
    (h63 : n ≤ maxLen) (hbytes : n * bytes ≤ 140737488355328)
    (h : ∀ B d w', Own w w' L → w'.ownsRow w.heap.size e sz (.slice B n d) n news → n ≤ d → (∀ e2 sz2 n2 v2 xs2, e2 ≠ e → W.ownsRow w.heap.size e2 sz2 v2 n2 xs2 → w'.ownsRow w.heap.size e2 sz2 v2 n2 xs2) → K (a.put o.dst (.slice B n d)) w') :
    if Region.wanted o (yielded ops a.tmps) = true then Oper.wp P o a W K Q else E := by
  subst hgg
  have B0 : Blk W g' e #[] := X.2 (g', e, #[]) (by simp)
  have R0 : W.ownsRow w.heap.size e sz (.slice (some ⟨g', 0, none⟩) 0 0) 0 [] := empty_own B0 hgw
  refine step_append_any W hgd s x t ho w.heap.size e i z sz bytes ht hi hz hsize hby hzs hpos _ 0 [] hs R0 w.heap.size A n c news hx (hR.below X.1) h1 (by omega) (by rw [Nat.zero_add]; exact hbytes) X.1.size fun v' w' hown hg hor => ?_
  rw [Nat.zero_add, List.nil_append] at hown
  obtain ⟨B, d, rfl, hd⟩ := row_sliceN hown
  exact h B d w' (X.tail.grown R0 hg hty) hown hd (fun e2 sz2 n2 v2 xs2 hne hr => hr.kept hg (rows_neC hr R0 hne))
def CpyPost (ss : List Spt) (fs : List Fce) (w : World) (e : Ending) (w' : World) : Prop :=
  ∃ B1 d1 B2 d2, e = .returned (.agg #[.slice B1 ss.length d1, .slice B2 fs.length d2]) ∧ ss.length ≤ d1 ∧ fs.length ≤ d2 ∧ Below w.heap.size w w' ∧
    w'.ownsRow w.heap.size 62 3 (.slice B1 ss.length d1) ss.length (flatSpt ss) ∧ w'.ownsRow w.heap.size 65 4 (.slice B2 fs.length d2) fs.length (flatFce fs)
set_option maxRecDepth 100000 in
set_option maxHeartbeats 4000000 in
theorem mrcopy_any (ss : List Spt) (fs : List Fce) (A1 A2 : Option Addr) (c1 c2 : Nat) (w : World) (hm : MshSl w ⟨ss, fs⟩ ⟨A1, c1, A2, c2⟩) (h1 : ss.length ≤ 4000) (h2 : fs.length ≤ 4000) :
    Calls Tryz.prog 28 #[.agg #[.slice A1 ss.length c1, .slice A2 fs.length c2]] w (CpyPost ss fs w) := by
  have X := ((Own.start w).alloc #[.slice A1 ss.length c1, .slice A2 fs.length c2] 25).alloc #[.slice none 0 0, .slice none 0 0] 25
  rw [World.size_alloc] at X
  have R1 := hide (SptSl.reads hm.1)
  have R2 := hide (FceSl.reads hm.2)
  obtain ⟨i1, hi1, hx0, hx1, hx2⟩ := info_parts spt_infoN
  obtain ⟨i2, hi2, hy0, hy1, hy2⟩ := info_parts fce_infoN
  have o1 := hide (flatSpt_one ss)
  have o2 := hide (flatFce_one fs)
  have hr := X.r2
  have HX := hide X
  have f1 : ss.length ≤ maxLen := by unfold maxLen; omega
  have f2 : fs.length ≤ maxLen := by unfold maxLen; omega
  have g1 : ss.length * 24 ≤ 140737488355328 := by omega
  have g2 : fs.length * 32 ≤ 140737488355328 := by omega
  have sz0 : w.heap.size + 1 < ((w.alloc (.cells #[.slice A1 ss.length c1, .slice A2 fs.length c2] 25)).alloc (.cells #[.slice none 0 0, .slice none 0 0] 25)).heap.size := by simp
  clear hm X h1 h2
  go_enter Tryz.func28, Tryz.ntmps28
  go_wp2
  generalize (w.alloc (.cells #[.slice A1 ss.length c1, .slice A2 fs.length c2] 25)).alloc (.cells #[.slice none 0 0, .slice none 0 0] 25) = W0 at *
  clear hr
  have hr := HX.out.r2
  have n1 : ¬ w.heap.size = w.heap.size + 1 := by omega
  have n2 : ¬ w.heap.size + 1 = w.heap.size := by omega
  go_region_held_law (fun w' => w'.cell? ⟨w.heap.size, 0, none⟩ = some (.slice A1 ss.length c1) ∧ w'.cell? ⟨w.heap.size, 1, none⟩ = some (.slice A2 fs.length c2)) (go_keep)
    (first
      | ((first
          | refine cp_step (HX.out.alloc #[] 62).drew (by simp) R1.out (by rfl) _ _ _ (by rfl) i1 _ 24 Tryz.underlying22 hi1 hx0 hx1 hx2 (by rfl) (by decide) (by rfl) (by rfl) (by simp) (by omega) o1.out f1 g1 ?_
          | refine cp_step ((HX.out.alloc #[] 62).alloc #[] 65).drew.swap (by simp) R1.out (by rfl) _ _ _ (by rfl) i1 _ 24 Tryz.underlying22 hi1 hx0 hx1 hx2 (by rfl) (by decide) (by rfl) (by rfl) (by simp) (by omega) o1.out f1 g1 ?_
          | refine cp_step ((HX.out.alloc #[] 65).alloc #[] 62).drew (by simp) R1.out (by rfl) _ _ _ (by rfl) i1 _ 24 Tryz.underlying22 hi1 hx0 hx1 hx2 (by rfl) (by decide) (by rfl) (by rfl) (by simp) (by omega) o1.out f1 g1 ?_
          | refine cp_step (HX.out.alloc #[] 62) (by simp) R1.out (by rfl) _ _ _ (by rfl) i1 _ 24 Tryz.underlying22 hi1 hx0 hx1 hx2 (by rfl) (by decide) (by rfl) (by rfl) (by simp) (by omega) o1.out f1 g1 ?_
          | refine cp_step HX.out (by simp) R1.out (by rfl) _ _ _ (by rfl) i1 _ 24 Tryz.underlying22 hi1 hx0 hx1 hx2 (by rfl) (by decide) (by rfl) (by rfl) (by simp) (by omega) o1.out f1 g1 ?_); intro B1 d1 w2 hO hD hc1 hk; replace HX := hide hO; have HD := hide hD; (first | (replace HP := hide (hk _ _ _ _ _ (by decide) HP.out)) | (replace HP := hide (hk _ _ _ _ _ (by decide) (HP.out.alloc (.cells #[] 62)))) | skip); (first | (have hr2 := HX.out.r3) | (have hr2 := HX.out.r2)); have q2 : w.heap.size + 1 < w2.heap.size := (by first | exact hr2.2.1.2.2 | exact hr2.1.2.2); clear hO hD hk)
      | ((first
          | refine cp_step (HX.out.alloc #[] 65).drew (by simp) R2.out (by rfl) _ _ _ (by rfl) i2 _ 32 Tryz.underlying23 hi2 hy0 hy1 hy2 (by rfl) (by decide) (by rfl) (by rfl) (by simp) (by omega) o2.out f2 g2 ?_
          | refine cp_step ((HX.out.alloc #[] 65).alloc #[] 62).drew.swap (by simp) R2.out (by rfl) _ _ _ (by rfl) i2 _ 32 Tryz.underlying23 hi2 hy0 hy1 hy2 (by rfl) (by decide) (by rfl) (by rfl) (by simp) (by omega) o2.out f2 g2 ?_
          | refine cp_step ((HX.out.alloc #[] 62).alloc #[] 65).drew (by simp) R2.out (by rfl) _ _ _ (by rfl) i2 _ 32 Tryz.underlying23 hi2 hy0 hy1 hy2 (by rfl) (by decide) (by rfl) (by rfl) (by simp) (by omega) o2.out f2 g2 ?_
          | refine cp_step (HX.out.alloc #[] 65) (by simp) R2.out (by rfl) _ _ _ (by rfl) i2 _ 32 Tryz.underlying23 hi2 hy0 hy1 hy2 (by rfl) (by decide) (by rfl) (by rfl) (by simp) (by omega) o2.out f2 g2 ?_
          | refine cp_step HX.out (by simp) R2.out (by rfl) _ _ _ (by rfl) i2 _ 32 Tryz.underlying23 hi2 hy0 hy1 hy2 (by rfl) (by decide) (by rfl) (by rfl) (by simp) (by omega) o2.out f2 g2 ?_); intro B2 d2 w3 hO hD hc2 hk; replace HX := hide hO; have HP := hide hD; (first | (replace HD := hide (hk _ _ _ _ _ (by decide) HD.out)) | (replace HD := hide (hk _ _ _ _ _ (by decide) (HD.out.alloc (.cells #[] 65)))) | skip); (first | (have hr2 := HX.out.r3) | (have hr2 := HX.out.r2)); have q3 : w.heap.size + 1 < w3.heap.size := (by first | exact hr2.2.1.2.2 | exact hr2.1.2.2); clear hO hD hk))
  all_goals
    have B0 : Blk w3 (w.heap.size + 1) 25 #[.slice none 0 0, .slice none 0 0] := HX.out.2 (w.heap.size + 1, _, _) (by simp)
    have B3 := B0.set_ 0 (.slice B1 ss.length d1)
    have HR := hide (And.intro (row_set (row_set HD.out B0 (by decide) 0 (.slice B1 ss.length d1)) B3 (by decide) 1 (.slice B2 fs.length d2)) (And.intro (row_set (row_set HP.out B0 (by decide) 0 (.slice B1 ss.length d1)) B3 (by decide) 1 (.slice B2 fs.length d2)) (below_set (below_set HX.out.1 (show w.heap.size ≤ w.heap.size + 1 by omega) (.slice B1 ss.length d1) (o := 0)) (show w.heap.size ≤ w.heap.size + 1 by omega) (.slice B2 fs.length d2) (o := 1))))
    clear HD HP R1 R2 o1 o2 B0 B3
    go_wp2
    exact bodyPost_ret (v := .agg #[.slice B1 ss.length d1, .slice B2 fs.length d2]) (by simp [results, Tryz.results28, hr2, go_sem]) rfl ⟨B1, d1, B2, d2, rfl, hc1, hc2, HR.out.2.2, HR.out.1, HR.out.2.1⟩
end Go.Proofs.YtaaadejamjbcbaaGreatDoor

namespace Go.Proofs.YtaaadejamjbcbaaGreatDoor
open Go.RowKit Go.ChangeShapes Go.WideShapes Go.ChangeAt

theorem own : ownKnob Tryz.prog.godebug = none := by kernel_rfl
theorem laidOut : laidOutB Tryz.prog = true := by kernel_rfl
section
variable {H : Type} {enc : TypeId × Value → H} {P : Program}
theorem trodAll_stays (hl : laidOutB P = true) {W W' : World} {sp : Nat → Bool} (hb : Below W.heap.size W W') :
    ∀ (ts : List TypeId) (vs : List Value) (ds : List (DataW H)) (ps : List MemPlace), ts.all (fun t => P.readableRec t && decide (t < P.types.size)) = true →
      DataW.TrodAll enc P W 0 (fun _ => true) true ts vs ds ps → (∀ p ∈ ps, p.block < W.heap.size) → (∀ p ∈ ps, sp p.block = true) → DataW.TrodAll enc P W' 0 sp true ts vs ds ps
  | [], vs, ds, ps, _, h, _, _ => by obtain ⟨rfl, rfl, rfl⟩ := trodAll_nil h; exact trodAll_mk0
  | t :: ts, vs, ds, ps, hr, h, hlt, hsp => by
    obtain ⟨v, vs', d, ds', p, q, rfl, rfl, rfl, h1, h2⟩ := trodAll_cons h
    simp only [List.all_cons, Bool.and_eq_true, decide_eq_true_eq] at hr
    exact trodAll_cons_mk (WideElems.Trod_stays hl hr.1.1 hr.1.2 h1 (fun x hx => hb.same (hlt x (by simp [hx]))) (fun x hx => hsp x (by simp [hx])))
      (trodAll_stays hl hb ts vs' ds' q hr.2 h2 (fun x hx => hlt x (by simp [hx])) (fun x hx => hsp x (by simp [hx])))
theorem trodAll_length : ∀ {w : World} {base : Nat} {sp : Nat → Bool} {hd : Bool} (ts : List TypeId) (vs : List Value) (ds : List (DataW H)) (ps : List MemPlace), DataW.TrodAll enc P w base sp hd ts vs ds ps → ds.length = ts.length
  | _, _, _, _, [], vs, ds, ps, h => by obtain ⟨rfl, rfl, rfl⟩ := trodAll_nil h; rfl
  | _, _, _, _, t :: ts, vs, ds, ps, h => by
    obtain ⟨v, vs', d, ds', p, q, rfl, rfl, rfl, h1, h2⟩ := trodAll_cons h
    simp [trodAll_length ts vs' ds' q h2]
theorem law_post {fn : Func} {s : ChangeSpec} {W W' : World} {args : Array Value} {ds gs : List (DataW H)} {before : List MemPlace} (hl : laidOutB P = true)
    (hread : fn.params.toList.all (fun t => P.readableRec t && decide (t < P.types.size)) = true) (hv : s.vars = []) (tb : TypeId) (hres : fn.resultTypes = #[tb]) (htb : P.underlying tb = some .bool)
    (hspec : ∀ ds : List (DataW H), ds.length = fn.params.size → s.fn H (ds ++ []) = { results := [.lit (.bool true)], args := ds })
    (hW : DataW.Whole enc P fn.params.toList s.vars false W args.toList ds gs before) (hb : Below W.heap.size W W') : s.post enc P fn false true false false W args (.bool true) W' := by
  have hW' := hW
  obtain ⟨p, q, hA, hV, hpq, _, _⟩ := hW
  rw [hv] at hV
  obtain ⟨rfl, rfl⟩ := trodVars_none hV
  have hlen : ds.length = fn.params.size := by simpa using trodAll_length _ _ _ _ hA
  have e := hspec ds hlen
  simp only [List.append_nil] at hpq
  subst hpq
  refine post_of_below (pa := before) (pv := []) hW' ?_ ?_ ?_ (by simp) hb ?_
  · intro b sp hd
    rw [e, hres]
    exact trodAll_mk1 (shut_bool htb true)
  · intro sp hsp
    rw [e]
    exact trodAll_stays hl hb _ _ _ _ hread hA (fun x hx => hW'.lt x hx) hsp
  · intro sp _
    rw [hv, e]
    rfl
  · exact ok_one hres rfl (okWide_bool_mk htb true)
end
end Go.Proofs.YtaaadejamjbcbaaGreatDoor

namespace Go.Proofs.YtaaadejamjbcbaaGreatDoor
open Go Go.RowKit Go.WideMaps

theorem wf_i64 {n : Int} (h : i64 n) : (Lit.int .i64 n).wf = true := by
  unfold i64 at h
  simp [Lit.wf, IntKind.min, IntKind.max, IntKind.signed, IntKind.bits]
  omega
theorem pt_keyed : Maps.Keyed Tryz.prog 95 := Maps.Keyed.of_law (deep_law_gate laidOut (of_decide_eq_true (by kernel_rfl)) (of_decide_eq_true (by kernel_rfl)) (by kernel_rfl) (by kernel_rfl))
theorem sd_keyed : Maps.Keyed Tryz.prog 127 := Maps.Keyed.of_law (deep_law_gate laidOut (of_decide_eq_true (by kernel_rfl)) (of_decide_eq_true (by kernel_rfl)) (by kernel_rfl) (by kernel_rfl))
theorem types_pos : ∃ m, Tryz.prog.types.size = m + 1 := Nat.exists_eq_succ_of_ne_zero (fun e => by
  have : (Tryz.prog.types.size == 0) = false := by kernel_rfl
  rw [e] at this
  cases this)
theorem int_key (d : Nat) {n : Int} (h : i64 n) : Tryz.prog.keyLits (d + 1) 3 [.int .i64 n] = some [.int .i64 n] := by
  unfold Program.keyLits
  rw [Tryz.underlying3]
  simp [wf_i64 h]
theorem pt_key (p : Pnt) (hx : i64 p.x) (hy : i64 p.y) : keyOf Tryz.prog 95 p.val = some (.string (keyBytes [.int .i64 p.x, .int .i64 p.y])) := by
  have hkt : Tryz.prog.keyType 95 = true := by kernel_rfl
  have hc : Tryz.prog.cellsOf 95 = 2 := by kernel_rfl
  have hi : Tryz.prog.cellsOf 3 = 1 := by kernel_rfl
  obtain ⟨m, hm⟩ := types_pos
  unfold keyOf
  simp only [Tryz.underlying95]
  rw [if_pos (by simp [hkt, Value.formed, Tryz.underlying95, hc]), hm]
  obtain ⟨m', rfl⟩ : ∃ m', m = m' + 1 := Nat.exists_eq_succ_of_ne_zero (fun e => by
    have : (Tryz.prog.types.size == 1) = false := by kernel_rfl
    rw [hm, e] at this
    cases this)
  unfold Program.keyLits
  simp only [Tryz.underlying95, Value.cells]
  rw [if_pos (by rw [hc]; exact ⟨rfl, by kernel_rfl⟩)]
  have e1 := int_key (m' + 1) hx
  have e2 := int_key (m' + 1) hy
  simp [hi, e1, e2]
theorem sd_key (a b : Int) (hx : i64 a) (hy : i64 b) : keyOf Tryz.prog 127 (.agg #[.int .i64 a, .int .i64 b]) = some (.string (keyBytes [.int .i64 a, .int .i64 b])) :=
  keyOf_pair (e := 3) ⟨Tryz.underlying127, by kernel_rfl, by kernel_rfl, by kernel_rfl⟩ Tryz.underlying3 types_pos (wf_i64 hx) (wf_i64 hy)
/-- an element that reads as a bool is that bool -/
theorem plainBool_inv {e : TypeId} (he : Tryz.prog.underlying e = some .bool) {v : Value} {z : DataW Unit × List MemPlace} (h : plainElem Tryz.prog e v = some z) : ∃ b, v = .bool b ∧ z = (.lit (.bool b), []) := by
  unfold plainElem at h
  rw [he] at h
  cases v <;> simp at h
  exact ⟨_, rfl, h.symm⟩
abbrev MapB (W : World) (k b n : Nat) (D : DataW Unit) : Prop := W.ownsMap Tryz.prog k (plainElem (H := Unit) Tryz.prog 4) b n D
theorem zero_bool (W : World) : (zeroValue 4).run Tryz.prog W = .ok (.bool false) W := Tryz.zeroValue4 W
theorem MapB.look {W : World} {k t b n : Nat} {D : DataW Unit} (h : MapB W k b n D) (K : Maps.Keyed Tryz.prog k) (ht : Tryz.prog.underlying t = some (.map k 4)) {key : Value} {kl : Lit} (hkey : keyOf Tryz.prog k key = some kl) :
    ∃ c : Bool, (Instr.lookup t (.map (some b)) key false).run Tryz.prog W = .ok (.bool c) W ∧ D.atKey kl (.lit (.bool false)) = .lit (.bool c) := by
  obtain ⟨v, ps, hrun, hv⟩ := World.ownsMap.lookup h K ht (zero_bool W) (Go.plainElem_bool Tryz.underlying4 false) hkey
  obtain ⟨c, rfl, hc⟩ := plainBool_inv Tryz.underlying4 hv
  simp only [Prod.mk.injEq] at hc
  exact ⟨c, hrun, hc.1⟩
/-- the map says yes at just these keys -/
def Says (D : DataW Unit) (key : Lit → Prop) : Prop := Maps.IsMap D ∧ ∀ l, WideAt.IsKeyLit l → ∃ c : Bool, D.atKey l (.lit (.bool false)) = .lit (.bool c) ∧ (c = true ↔ key l)
theorem Says.empty : Says (.map []) (fun _ => False) := ⟨⟨[], rfl⟩, fun l _ => ⟨false, rfl, by simp⟩⟩
theorem Says.put {D : DataW Unit} {key : Lit → Prop} (h : Says D key) {k : Lit} (hk : WideAt.IsKeyLit k) : Says (D.put k (.lit (.bool true))) (fun l => l = k ∨ key l) := by
  refine ⟨h.1.put k _, fun l hl => ?_⟩
  by_cases e : l = k
  · subst e
    exact ⟨true, Maps.atKey_put_same h.1 hl _ _, by simp⟩
  · obtain ⟨c, h1, h2⟩ := h.2 l hl
    exact ⟨c, (Maps.atKey_put_other e _ _).trans h1, by simp [e, h2]⟩
theorem MapB.says {W : World} {k t b n : Nat} {D : DataW Unit} {key : Lit → Prop} (h : MapB W k b n D) (K : Maps.Keyed Tryz.prog k) (ht : Tryz.prog.underlying t = some (.map k 4)) (hs : Says D key) {kv : Value} {kl : Lit} (hkey : keyOf Tryz.prog k kv = some kl) :
    ∃ c : Bool, (Instr.lookup t (.map (some b)) kv false).run Tryz.prog W = .ok (.bool c) W ∧ (c = true ↔ key kl) := by
  obtain ⟨c, h1, h2⟩ := h.look K ht hkey
  obtain ⟨c', h3, h4⟩ := hs.2 kl (K.key hkey)
  rw [h3] at h2
  injection h2 with h2
  injection h2 with h2
  subst h2
  exact ⟨c', h1, h4⟩
end Go.Proofs.YtaaadejamjbcbaaGreatDoor
