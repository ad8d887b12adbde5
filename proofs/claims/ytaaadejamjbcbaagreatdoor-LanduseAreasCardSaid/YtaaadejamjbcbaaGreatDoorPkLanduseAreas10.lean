/- Parts of one proof, joined: Small functions of the reference's surfaces: Turn, Spot, Point, Small, Corner, Triangle, turn: what each returns; nothing that was there is turned. The reference's Triangle, turn, apart, overlap: what each returns; nothing that was there is turned (printed by gen_mrt.py). -/
import Derived.Test.YtaaadejamjbcbaaGreatDoorPkLanduseAreas3
import Derived.Test.YtaaadejamjbcbaaGreatDoorPkLanduseAreas4
namespace Go.Proofs.YtaaadejamjbcbaaGreatDoor
open Go Go.RowKit

set_option maxHeartbeats 1000000 in
theorem mrsmall_any (m : Msh) (a : MshA) (w : World) : Calls Tryz.prog 26 #[m.val a] w (RetW (.bool (smB m)) w) := by
  have X := (Own.start w).alloc (m.cells a) 25
  have hr := X.r1
  have E : Hid (smB m = (decide (m.ss.length ≤ 2000) && decide (m.fs.length ≤ 4000))) := hide rfl
  by_cases h1 : m.ss.length ≤ 2000 <;> by_cases h2 : m.fs.length ≤ 4000
  all_goals
    go_enter Tryz.func26, Tryz.ntmps26
    go_wp2
    go_ret
    exact ⟨ret_bool (by rw [E.out]; simp [h1, h2]; try omega), X.1⟩
set_option maxHeartbeats 1000000 in
theorem mrturn_any (a b c : Pnt) (w : World) (ha : a.in) (hb : b.in) (hc : c.in) : Calls Tryz.prog 77 #[a.val, b.val, c.val] w (RetW (.int .i64 (trn a b c)) w) := by
  have X := (((Own.start w).alloc #[.int .i64 a.x, .int .i64 a.y] 95).alloc #[.int .i64 b.x, .int .i64 b.y] 95).alloc #[.int .i64 c.x, .int .i64 c.y] 95
  simp only [World.size_alloc] at X
  have hr := X.r3
  have XB := hide X.1
  obtain ⟨m1, m2⟩ := trn_bd ha hb hc
  obtain ⟨⟨a1, a2⟩, a3, a4⟩ := ha
  obtain ⟨⟨b1, b2⟩, b3, b4⟩ := hb
  obtain ⟨⟨c1, c2⟩, c3, c4⟩ := hc
  have E : Hid (trn a b c = (b.x - a.x) * (c.y - a.y) - (b.y - a.y) * (c.x - a.x)) := hide rfl
  generalize trn a b c = t at *
  have e1 := IntWalk.i64_in (b.x - a.x) (by omega)
  have e2 := IntWalk.i64_in (c.y - a.y) (by omega)
  have e3 := IntWalk.i64_in (b.y - a.y) (by omega)
  have e4 := IntWalk.i64_in (c.x - a.x) (by omega)
  obtain ⟨p, hp⟩ : ∃ p, p = (b.x - a.x) * (c.y - a.y) := ⟨_, rfl⟩
  obtain ⟨q, hq⟩ : ∃ q, q = (b.y - a.y) * (c.x - a.x) := ⟨_, rfl⟩
  rw [← hp, ← hq] at E
  rw [← hp] at m1
  rw [← hq] at m2
  have w1 : IntKind.i64.wrap ((b.x - a.x) * (c.y - a.y)) = p := by rw [← hp]; exact IntWalk.i64_in _ (by omega)
  have w2 : IntKind.i64.wrap ((b.y - a.y) * (c.x - a.x)) = q := by rw [← hq]; exact IntWalk.i64_in _ (by omega)
  have w3 := IntWalk.i64_in (p - q) (by omega)
  clear hp hq X
  go_enter Tryz.func77, Tryz.ntmps77
  go_wp2
  go_ret
  exact ⟨by rw [E.out]; rfl, XB.out⟩
set_option maxHeartbeats 2000000 in
theorem mrspot_any (x y z : Int) (w : World) : Calls Tryz.prog 44 #[.agg #[.int .i64 x, .int .i64 y, .int .i64 z]] w (RetW (.bool (okS ⟨x, y, z⟩)) w) := by
  have X := (Own.start w).alloc #[.int .i64 x, .int .i64 y, .int .i64 z] 62
  have hr := X.r1
  have E : Hid (okS ⟨x, y, z⟩ = (decide (-16777216 ≤ x) && decide (x ≤ 16777216) && decide (-16777216 ≤ y) && decide (y ≤ 16777216) && decide (-4194304 ≤ z) && decide (z ≤ 4194304))) := hide rfl
  have ways : decide (-16777216 ≤ x) = false ∨ (decide (-16777216 ≤ x) = true ∧ decide (x ≤ 16777216) = false) ∨ (decide (-16777216 ≤ x) = true ∧ decide (x ≤ 16777216) = true ∧ decide (-16777216 ≤ y) = false) ∨
      (decide (-16777216 ≤ x) = true ∧ decide (x ≤ 16777216) = true ∧ decide (-16777216 ≤ y) = true ∧ decide (y ≤ 16777216) = false) ∨
      (decide (-16777216 ≤ x) = true ∧ decide (x ≤ 16777216) = true ∧ decide (-16777216 ≤ y) = true ∧ decide (y ≤ 16777216) = true ∧ decide (-4194304 ≤ z) = false) ∨
      (decide (-16777216 ≤ x) = true ∧ decide (x ≤ 16777216) = true ∧ decide (-16777216 ≤ y) = true ∧ decide (y ≤ 16777216) = true ∧ decide (-4194304 ≤ z) = true) := by
    cases decide (-16777216 ≤ x) <;> cases decide (x ≤ 16777216) <;> cases decide (-16777216 ≤ y) <;> cases decide (y ≤ 16777216) <;> cases decide (-4194304 ≤ z) <;> simp
  rcases ways with q1 | ⟨q1, q2⟩ | ⟨q1, q2, q3⟩ | ⟨q1, q2, q3, q4⟩ | ⟨q1, q2, q3, q4, q5⟩ | ⟨q1, q2, q3, q4, q5⟩
  all_goals
    go_enter Tryz.func44, Tryz.ntmps44
    go_wp2
    go_ret
    exact ⟨ret_bool (by rw [E.out]; simp [*]), X.1⟩
set_option maxHeartbeats 1000000 in
theorem mrpoint_any (x y z : Int) (w : World) : Calls Tryz.prog 46 #[.agg #[.int .i64 x, .int .i64 y, .int .i64 z]] w (RetW (.agg #[.int .i64 x, .int .i64 y]) w) := by
  have X := ((Own.start w).alloc #[.int .i64 x, .int .i64 y, .int .i64 z] 62).alloc #[.int .i64 0, .int .i64 0] 95
  rw [World.size_alloc] at X
  have hr := X.r2
  have XB := hide X.1
  go_enter Tryz.func46, Tryz.ntmps46
  go_wp2
  exact bodyPost_ret (v := .agg #[.int .i64 x, .int .i64 y]) (by simp [results, Tryz.results46, go_sem]) rfl ⟨rfl, by have HX := XB.out; have hz := HX.size; go_grown⟩
/-- a corner of a face, counted around -/
def cor (f : Fce) : Nat → Int
  | 0 => f.a
  | 1 => f.b
  | 2 => f.c
  | _ => f.a
set_option maxHeartbeats 2000000 in
theorem mrcorner_any (a b c d : Int) (k : Nat) (w : World) (hk : k ≤ 3) : Calls Tryz.prog 78 #[.agg #[.int .i64 a, .int .i64 b, .int .i64 c, .int .i64 d], .int .i64 k] w (RetW (.int .i64 (cor ⟨a, b, c, d⟩ k)) w) := by
  have X := (Own.start w).alloc #[.int .i64 a, .int .i64 b, .int .i64 c, .int .i64 d] 65
  have hr := X.r1
  have XB := hide X.1
  have s0 : (0 : Int).tmod 3 = 0 := by decide
  have s1 : (1 : Int).tmod 3 = 1 := by decide
  have s2 : (2 : Int).tmod 3 = 2 := by decide
  have s3 : (3 : Int).tmod 3 = 0 := by decide
  obtain rfl | rfl | rfl | rfl : k = 0 ∨ k = 1 ∨ k = 2 ∨ k = 3 := by omega
  · show Calls _ _ #[.agg #[.int .i64 a, .int .i64 b, .int .i64 c, .int .i64 d], .int .i64 0] w (RetW (.int .i64 a) w)
    go_enter Tryz.func78, Tryz.ntmps78
    go_wp2
    go_ret
    exact ⟨rfl, by have HX := XB.out; have hz := HX.size; go_grown⟩
  · show Calls _ _ #[.agg #[.int .i64 a, .int .i64 b, .int .i64 c, .int .i64 d], .int .i64 1] w (RetW (.int .i64 b) w)
    go_enter Tryz.func78, Tryz.ntmps78
    go_wp2
    go_ret
    exact ⟨rfl, by have HX := XB.out; have hz := HX.size; go_grown⟩
  · show Calls _ _ #[.agg #[.int .i64 a, .int .i64 b, .int .i64 c, .int .i64 d], .int .i64 2] w (RetW (.int .i64 c) w)
    go_enter Tryz.func78, Tryz.ntmps78
    go_wp2
    go_ret
    exact ⟨rfl, by have HX := XB.out; have hz := HX.size; go_grown⟩
  · show Calls _ _ #[.agg #[.int .i64 a, .int .i64 b, .int .i64 c, .int .i64 d], .int .i64 3] w (RetW (.int .i64 a) w)
    go_enter Tryz.func78, Tryz.ntmps78
    go_wp2
    go_ret
    exact ⟨rfl, by have HX := XB.out; have hz := HX.size; go_grown⟩
/-- a triangle in a new block -/
def TriPost (t : Tri) (w : World) (e : Ending) (w' : World) : Prop := ∃ g, e = .returned (.slice (some ⟨g, 0, none⟩) 3 3) ∧ Blk w' g 95 t.cells.toArray ∧ w.heap.size ≤ g ∧ Below w.heap.size w w'
end Go.Proofs.YtaaadejamjbcbaaGreatDoor

namespace Go.Proofs.YtaaadejamjbcbaaGreatDoor
open Go Go.RowKit

theorem Own.cons {w W : World} {L : List (Nat × TypeId × Array Value)} {g : Nat} {t : TypeId} {cs : Array Value} (h : Own w W L) (hB : Blk W g t cs) : Own w W ((g, t, cs) :: L) :=
  ⟨h.1, fun x hx => by
    rcases List.mem_cons.1 hx with rfl | hx
    · exact hB
    · exact h.2 x hx⟩
/-- a triangle lies in a block -/
structure TriB (w : World) (b : Nat) (t : Tri) : Prop where
  lt : b < w.heap.size
  c0 : w.cell? ⟨b, 0, none⟩ = some (.int .i64 t.p.x)
  c1 : w.cell? ⟨b, 1, none⟩ = some (.int .i64 t.p.y)
  c2 : w.cell? ⟨b, 2, none⟩ = some (.int .i64 t.q.x)
  c3 : w.cell? ⟨b, 3, none⟩ = some (.int .i64 t.q.y)
  c4 : w.cell? ⟨b, 4, none⟩ = some (.int .i64 t.r.x)
  c5 : w.cell? ⟨b, 5, none⟩ = some (.int .i64 t.r.y)
theorem TriB.below {w w' : World} {b : Nat} {t : Tri} (h : TriB w b t) (hb : Below w.heap.size w w') : TriB w' b t :=
  have k := fun (i : Nat) => hb.cell (p := ⟨b, i, none⟩) h.lt
  ⟨Nat.lt_of_lt_of_le h.lt hb.size, (k _).trans h.c0, (k _).trans h.c1, (k _).trans h.c2, (k _).trans h.c3, (k _).trans h.c4, (k _).trans h.c5⟩
theorem TriB.of {w : World} {b : Nat} {t : Tri} (h : Blk w b 95 t.cells.toArray) : TriB w b t :=
  ⟨h.lt, h.cell _, h.cell _, h.cell _, h.cell _, h.cell _, h.cell _⟩
set_option maxRecDepth 100000 in
set_option maxHeartbeats 1000000 in
theorem mrtri_any (m : Msh) (a : MshA) (fa fb fc : Nat) (fk : Int) (w : World) (hm : MshSl w m a) (ha : fa < m.ss.length) (hb : fb < m.ss.length) (hc : fc < m.ss.length) :
    Calls Tryz.prog 76 #[m.val a, .agg #[.int .i64 fa, .int .i64 fb, .int .i64 fc, .int .i64 fk]] w (TriPost (triA m.ss ⟨fa, fb, fc, fk⟩) w) := by
  obtain ⟨ss, fs⟩ := m
  obtain ⟨A1, c1, A2, c2⟩ := a
  have ha' : fa < ss.length := ha
  have hb' : fb < ss.length := hb
  have hc' : fc < ss.length := hc
  have hlen : ss.length ≤ 9223372036854775807 := hm.1.1.1
  obtain ⟨b, off, e, hbl, hat⟩ := hm.1.2 (by show 0 < ss.length; omega)
  obtain rfl : A1 = some ⟨b, off, none⟩ := e
  have X := ((Own.start w).alloc #[.slice (some ⟨b, off, none⟩) ss.length c1, .slice A2 fs.length c2] 25).alloc #[.int .i64 fa, .int .i64 fb, .int .i64 fc, .int .i64 fk] 65
  rw [World.size_alloc] at X
  have ET : Hid (triA ss ⟨fa, fb, fc, fk⟩ = ⟨(ss[fa]).pt, (ss[fb]).pt, (ss[fc]).pt⟩) := hide (by simp [triA, spA, ha', hb', hc'])
  have KC := hide (fun W' (h : Below w.heap.size w W') => (⟨
    (h.cell (p := ⟨b, _, none⟩) hbl).trans (hat fa ha').1,
    (h.cell (p := ⟨b, _, none⟩) hbl).trans (hat fa ha').2.1,
    (h.cell (p := ⟨b, _, none⟩) hbl).trans (hat fa ha').2.2,
    (h.cell (p := ⟨b, _, none⟩) hbl).trans (hat fb hb').1,
    (h.cell (p := ⟨b, _, none⟩) hbl).trans (hat fb hb').2.1,
    (h.cell (p := ⟨b, _, none⟩) hbl).trans (hat fb hb').2.2,
    (h.cell (p := ⟨b, _, none⟩) hbl).trans (hat fc hc').1,
    (h.cell (p := ⟨b, _, none⟩) hbl).trans (hat fc hc').2.1,
    (h.cell (p := ⟨b, _, none⟩) hbl).trans (hat fc hc').2.2⟩ :
    W'.cell? ⟨b, off + fa * 3, none⟩ = some (.int .i64 (ss[fa]).x) ∧ W'.cell? ⟨b, off + fa * 3 + 1, none⟩ = some (.int .i64 (ss[fa]).y) ∧ W'.cell? ⟨b, off + fa * 3 + 2, none⟩ = some (.int .i64 (ss[fa]).z) ∧ W'.cell? ⟨b, off + fb * 3, none⟩ = some (.int .i64 (ss[fb]).x) ∧ W'.cell? ⟨b, off + fb * 3 + 1, none⟩ = some (.int .i64 (ss[fb]).y) ∧ W'.cell? ⟨b, off + fb * 3 + 2, none⟩ = some (.int .i64 (ss[fb]).z) ∧ W'.cell? ⟨b, off + fc * 3, none⟩ = some (.int .i64 (ss[fc]).x) ∧ W'.cell? ⟨b, off + fc * 3 + 1, none⟩ = some (.int .i64 (ss[fc]).y) ∧ W'.cell? ⟨b, off + fc * 3 + 2, none⟩ = some (.int .i64 (ss[fc]).z)))
  have PN := hide (fun (x y z : Int) W => mrpoint_any x y z W)
  unfold RetW at PN
  show Calls _ _ #[.agg #[.slice (some ⟨b, off, none⟩) ss.length c1, .slice A2 fs.length c2], _] w (TriPost (triA ss ⟨fa, fb, fc, fk⟩) w)
  have ga : (fa : Int) < (ss.length : Int) := by omega
  have gb : (fb : Int) < (ss.length : Int) := by omega
  have gc : (fc : Int) < (ss.length : Int) := by omega
  have za : (0 : Int) ≤ (fa : Int) := by omega
  have zb : (0 : Int) ≤ (fb : Int) := by omega
  have zc : (0 : Int) ≤ (fc : Int) := by omega
  rw [ET.out]
  generalize ss[fa] = sa at *
  generalize ss[fb] = sb at *
  generalize ss[fc] = sc at *
  clear hat hm ET ha hb hc
  go_enter Tryz.func76, Tryz.ntmps76
  go_wp2
  have KW := hide X.1
  generalize (w.alloc (.cells #[.slice (some ⟨b, off, none⟩) ss.length c1, .slice A2 fs.length c2] 25)).alloc (.cells #[.int .i64 fa, .int .i64 fb, .int .i64 fc, .int .i64 fk] 65) = W at *
  have hr := X.r2
  have HX := hide X
  obtain ⟨q0, q1, q2, q3, q4, q5, q6, q7, q8⟩ := KC.out _ X.1
  clear X
  go_region_held3 (fun w' => w'.cell? ⟨w.heap.size, 0, none⟩ = some (.slice (some ⟨b, off, none⟩) ss.length c1) ∧ w'.cell? ⟨w.heap.size + 1, 0, none⟩ = some (.int .i64 fa) ∧ w'.cell? ⟨w.heap.size + 1, 1, none⟩ = some (.int .i64 fb) ∧ w'.cell? ⟨w.heap.size + 1, 2, none⟩ = some (.int .i64 fc) ∧ w'.cell? ⟨b, off + fa * 3, none⟩ = some (.int .i64 sa.x) ∧ w'.cell? ⟨b, off + fa * 3 + 1, none⟩ = some (.int .i64 sa.y) ∧ w'.cell? ⟨b, off + fa * 3 + 2, none⟩ = some (.int .i64 sa.z) ∧ w'.cell? ⟨b, off + fb * 3, none⟩ = some (.int .i64 sb.x) ∧ w'.cell? ⟨b, off + fb * 3 + 1, none⟩ = some (.int .i64 sb.y) ∧ w'.cell? ⟨b, off + fb * 3 + 2, none⟩ = some (.int .i64 sb.z) ∧ w'.cell? ⟨b, off + fc * 3, none⟩ = some (.int .i64 sc.x) ∧ w'.cell? ⟨b, off + fc * 3 + 1, none⟩ = some (.int .i64 sc.y) ∧ w'.cell? ⟨b, off + fc * 3 + 2, none⟩ = some (.int .i64 sc.z)) (go_keep)
    (first
      | (go_at_call 46; ((with_reducible refine Calls.mono (PN.out _ _ _ _) ?_); rintro e w1 ⟨rfl, hb⟩); have hw := below_go (show Below W.heap.size W _ from by go_grown) hb; have hr2 := (HX.out.to hw).r2; obtain ⟨p0, p1, p2, p3, p4, p5, p6, p7, p8⟩ := KC.out _ (HX.out.to hw).1))
  all_goals
    have XB := hide (HX.out.to hw).1
    go_wp2
    go_ret
    exact ⟨_, rfl, Blk.new _ _ _, XB.out.size, by have HX := XB.out; have hz := HX.size; go_grown⟩
set_option maxRecDepth 100000 in
set_option maxHeartbeats 1000000 in
theorem mrtrn_any (m : Msh) (a : MshA) (fa fb fc : Nat) (fk : Int) (w : World) (hm : MshSl w m a) (ha : fa < m.ss.length) (hb : fb < m.ss.length) (hc : fc < m.ss.length) (T : Tri) (eT : triA m.ss ⟨fa, fb, fc, fk⟩ = T) (hin : T.in) :
    Calls Tryz.prog 48 #[m.val a, .agg #[.int .i64 fa, .int .i64 fb, .int .i64 fc, .int .i64 fk]] w (RetW (.int .i64 (trn T.p T.q T.r)) w) := by
  have TR := hide (fun W h => mrtri_any m a fa fb fc fk W h ha hb hc)
  rw [eT] at TR
  unfold TriPost at TR
  have TN := hide (fun W => mrturn_any T.p T.q T.r W hin.1 hin.2.1 hin.2.2)
  unfold RetW at TN
  have HM := hide hm
  obtain ⟨ss, fs⟩ := m
  obtain ⟨A1, c1, A2, c2⟩ := a
  generalize trn T.p T.q T.r = n at *
  have X := ((Own.start w).alloc #[.slice A1 ss.length c1, .slice A2 fs.length c2] 25).alloc #[.int .i64 fa, .int .i64 fb, .int .i64 fc, .int .i64 fk] 65
  rw [World.size_alloc] at X
  have hr := X.r2
  clear hm ha hb hc eT hin
  show Calls _ _ #[.agg #[.slice A1 ss.length c1, .slice A2 fs.length c2], _] w _
  go_enter Tryz.func48, Tryz.ntmps48
  go_wp2_with fail
  refine (TR.out _ (HM.out.below X.1)).mono ?_
  rintro e w1 ⟨g, rfl, hB, -, hb⟩
  have HX := hide ((X.to hb).cons hB)
  clear hb hr X hB TR HM
  have hr := HX.out.r3
  go_wp2_with fail
  have C1 := fun x : OwnW w [(g, 95, #[.int .i64 T.p.x, .int .i64 T.p.y, .int .i64 T.q.x, .int .i64 T.q.y, .int .i64 T.r.x, .int .i64 T.r.y]), (w.heap.size + 1, 65, #[.int .i64 fa, .int .i64 fb, .int .i64 fc, .int .i64 fk]), (w.heap.size, 25, #[.slice A1 ss.length c1, .slice A2 fs.length c2])] => x.own.r1
  have NE : Nonempty (OwnW w [(g, 95, #[.int .i64 T.p.x, .int .i64 T.p.y, .int .i64 T.q.x, .int .i64 T.q.y, .int .i64 T.r.x, .int .i64 T.r.y]), (w.heap.size + 1, 65, #[.int .i64 fa, .int .i64 fb, .int .i64 fc, .int .i64 fk]), (w.heap.size, 25, #[.slice A1 ss.length c1, .slice A2 fs.length c2])]) := ⟨⟨_, HX.out⟩⟩
  refine wp_region_own (w := w) (L := [(g, 95, #[.int .i64 T.p.x, .int .i64 T.p.y, .int .i64 T.q.x, .int .i64 T.q.y, .int .i64 T.r.x, .int .i64 T.r.y]), (w.heap.size + 1, 65, #[.int .i64 fa, .int .i64 fb, .int .i64 fc, .int .i64 fk]), (w.heap.size, 25, #[.slice A1 ss.length c1, .slice A2 fs.length c2])]) (by kernel_rfl) (by kernel_rfl) HX.out ?_
  repeat (go_big_quiet_step ((rename_i x; exact own_call (TN.out _))))
  refine wpQuiet_nil ?_
  rintro _ ⟨⟨W, HX⟩, rfl⟩
  go_wp2
  go_ret
  exact ⟨rfl, HX.1⟩
end Go.Proofs.YtaaadejamjbcbaaGreatDoor
