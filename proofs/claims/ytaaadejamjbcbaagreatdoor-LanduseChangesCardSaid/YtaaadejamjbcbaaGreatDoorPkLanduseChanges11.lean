/- The reference's Triangle, turn, apart, overlap: what each returns; nothing that was there is turned (printed by gen_mrt.py). -/
import Derived.Test.YtaaadejamjbcbaaGreatDoorPkLanduseChanges3
import Derived.Test.YtaaadejamjbcbaaGreatDoorPkLanduseChanges4
namespace Go.Proofs.YtaaadejamjbcbaaGreatDoor
open Go Go.RowKit

theorem Own.cons {w W : World} {L : List (Nat × TypeId × Array Value)} {g : Nat} {t : TypeId} {cs : Array Value} (h : Own w W L) (hB : Blk W g t cs) : Own w W ((g, t, cs) :: L) :=
  ⟨h.1, fun x hx => by
    rcases List.mem_cons.1 hx with rfl | hx
    · exact hB
    · exact h.2 x hx⟩
/-- a triangle lies in a block -/
structure TriB (w : World) (b : Nat) (t : Tri) : Prop where
  lt : b < w.heap.size
  c0 : w.cell? ⟨b, 0, none⟩ = some (.int .i64 t.p.x)
  c1 : w.cell? ⟨b, 1, none⟩ = some (.int .i64 t.p.y)
  c2 : w.cell? ⟨b, 2, none⟩ = some (.int .i64 t.q.x)
  c3 : w.cell? ⟨b, 3, none⟩ = some (.int .i64 t.q.y)
  c4 : w.cell? ⟨b, 4, none⟩ = some (.int .i64 t.r.x)
  c5 : w.cell? ⟨b, 5, none⟩ = some (.int .i64 t.r.y)
theorem TriB.below {w w' : World} {b : Nat} {t : Tri} (h : TriB w b t) (hb : Below w.heap.size w w') : TriB w' b t :=
  have k := fun (i : Nat) => hb.cell (p := ⟨b, i, none⟩) h.lt
  ⟨Nat.lt_of_lt_of_le h.lt hb.size, (k _).trans h.c0, (k _).trans h.c1, (k _).trans h.c2, (k _).trans h.c3, (k _).trans h.c4, (k _).trans h.c5⟩
theorem TriB.of {w : World} {b : Nat} {t : Tri} (h : Blk w b 95 t.cells.toArray) : TriB w b t :=
  ⟨h.lt, h.cell _, h.cell _, h.cell _, h.cell _, h.cell _, h.cell _⟩
set_option maxRecDepth 100000 in
set_option maxHeartbeats 1000000 in
theorem mrtri_any (m : Msh) (a : MshA) (fa fb fc : Nat) (fk : Int) (w : World) (hm : MshSl w m a) (ha : fa < m.ss.length) (hb : fb < m.ss.length) (hc : fc < m.ss.length) :
    Calls Tryz.prog 76 #[m.val a, .agg #[.int .i64 fa, .int .i64 fb, .int .i64 fc, .int .i64 fk]] w (TriPost (triA m.ss ⟨fa, fb, fc, fk⟩) w) := by
  obtain ⟨ss, fs⟩ := m
  obtain ⟨A1, c1, A2, c2⟩ := a
  have ha' : fa < ss.length := ha
  have hb' : fb < ss.length := hb
  have hc' : fc < ss.length := hc
  have hlen : ss.length ≤ 9223372036854775807 := hm.1.1.1
  obtain ⟨b, off, e, hbl, hat⟩ := hm.1.2 (by show 0 < ss.length; omega)
  obtain rfl : A1 = some ⟨b, off, none⟩ := e
  have X := ((Own.start w).alloc #[.slice (some ⟨b, off, none⟩) ss.length c1, .slice A2 fs.length c2] 25).alloc #[.int .i64 fa, .int .i64 fb, .int .i64 fc, .int .i64 fk] 65
  rw [World.size_alloc] at X
  have ET : Hid (triA ss ⟨fa, fb, fc, fk⟩ = ⟨(ss[fa]).pt, (ss[fb]).pt, (ss[fc]).pt⟩) := hide (by simp [triA, spA, ha', hb', hc'])
  have KC := hide (fun W' (h : Below w.heap.size w W') => (⟨
    (h.cell (p := ⟨b, _, none⟩) hbl).trans (hat fa ha').1,
    (h.cell (p := ⟨b, _, none⟩) hbl).trans (hat fa ha').2.1,
    (h.cell (p := ⟨b, _, none⟩) hbl).trans (hat fa ha').2.2,
    (h.cell (p := ⟨b, _, none⟩) hbl).trans (hat fb hb').1,
    (h.cell (p := ⟨b, _, none⟩) hbl).trans (hat fb hb').2.1,
    (h.cell (p := ⟨b, _, none⟩) hbl).trans (hat fb hb').2.2,
    (h.cell (p := ⟨b, _, none⟩) hbl).trans (hat fc hc').1,
    (h.cell (p := ⟨b, _, none⟩) hbl).trans (hat fc hc').2.1,
    (h.cell (p := ⟨b, _, none⟩) hbl).trans (hat fc hc').2.2⟩ :
    W'.cell? ⟨b, off + fa * 3, none⟩ = some (.int .i64 (ss[fa]).x) ∧ W'.cell? ⟨b, off + fa * 3 + 1, none⟩ = some (.int .i64 (ss[fa]).y) ∧ W'.cell? ⟨b, off + fa * 3 + 2, none⟩ = some (.int .i64 (ss[fa]).z) ∧ W'.cell? ⟨b, off + fb * 3, none⟩ = some (.int .i64 (ss[fb]).x) ∧ W'.cell? ⟨b, off + fb * 3 + 1, none⟩ = some (.int .i64 (ss[fb]).y) ∧ W'.cell? ⟨b, off + fb * 3 + 2, none⟩ = some (.int .i64 (ss[fb]).z) ∧ W'.cell? ⟨b, off + fc * 3, none⟩ = some (.int .i64 (ss[fc]).x) ∧ W'.cell? ⟨b, off + fc * 3 + 1, none⟩ = some (.int .i64 (ss[fc]).y) ∧ W'.cell? ⟨b, off + fc * 3 + 2, none⟩ = some (.int .i64 (ss[fc]).z)))
  have PN := hide (fun (x y z : Int) W => mrpoint_any x y z W)
  unfold RetW at PN
  show Calls _ _ #[.agg #[.slice (some ⟨b, off, none⟩) ss.length c1, .slice A2 fs.length c2], _] w (TriPost (triA ss ⟨fa, fb, fc, fk⟩) w)
  have ga : (fa : Int) < (ss.length : Int) := by omega
  have gb : (fb : Int) < (ss.length : Int) := by omega
  have gc : (fc : Int) < (ss.length : Int) := by omega
  have za : (0 : Int) ≤ (fa : Int) := by omega
  have zb : (0 : Int) ≤ (fb : Int) := by omega
  have zc : (0 : Int) ≤ (fc : Int) := by omega
  rw [ET.out]
  generalize ss[fa] = sa at *
  generalize ss[fb] = sb at *
  generalize ss[fc] = sc at *
  clear hat hm ET ha hb hc
  go_enter Tryz.func76, Tryz.ntmps76
  go_wp2
  have KW := hide X.1
  generalize (w.alloc (.cells #[.slice (some ⟨b, off, none⟩) ss.length c1, .slice A2 fs.length c2] 25)).alloc (.cells #[.int .i64 fa, .int .i64 fb, .int .i64 fc, .int .i64 fk] 65) = W at *
  have hr := X.r2
  have HX := hide X
  obtain ⟨q0, q1, q2, q3, q4, q5, q6, q7, q8⟩ := KC.out _ X.1
  clear X
  go_region_held3 (fun w' => w'.cell? ⟨w.heap.size, 0, none⟩ = some (.slice (some ⟨b, off, none⟩) ss.length c1) ∧ w'.cell? ⟨w.heap.size + 1, 0, none⟩ = some (.int .i64 fa) ∧ w'.cell? ⟨w.heap.size + 1, 1, none⟩ = some (.int .i64 fb) ∧ w'.cell? ⟨w.heap.size + 1, 2, none⟩ = some (.int .i64 fc) ∧ w'.cell? ⟨b, off + fa * 3, none⟩ = some (.int .i64 sa.x) ∧ w'.cell? ⟨b, off + fa * 3 + 1, none⟩ = some (.int .i64 sa.y) ∧ w'.cell? ⟨b, off + fa * 3 + 2, none⟩ = some (.int .i64 sa.z) ∧ w'.cell? ⟨b, off + fb * 3, none⟩ = some (.int .i64 sb.x) ∧ w'.cell? ⟨b, off + fb * 3 + 1, none⟩ = some (.int .i64 sb.y) ∧ w'.cell? ⟨b, off + fb * 3 + 2, none⟩ = some (.int .i64 sb.z) ∧ w'.cell? ⟨b, off + fc * 3, none⟩ = some (.int .i64 sc.x) ∧ w'.cell? ⟨b, off + fc * 3 + 1, none⟩ = some (.int .i64 sc.y) ∧ w'.cell? ⟨b, off + fc * 3 + 2, none⟩ = some (.int .i64 sc.z)) (go_keep)
    (first
      | (go_at_call 46; ((with_reducible refine Calls.mono (PN.out _ _ _ _) ?_); rintro e w1 ⟨rfl, hb⟩); have hw := below_go (show Below W.heap.size W _ from by go_grown) hb; have hr2 := (HX.out.to hw).r2; obtain ⟨p0, p1, p2, p3, p4, p5, p6, p7, p8⟩ := KC.out _ (HX.out.to hw).1))
  all_goals
    have XB := hide (HX.out.to hw).1
    go_wp2
    go_ret
    exact ⟨_, rfl, Blk.new _ _ _, XB.out.size, by have HX := XB.out; have hz := HX.size; go_grown⟩
set_option maxRecDepth 100000 in
set_option maxHeartbeats 1000000 in
theorem mrtrn_any (m : Msh) (a : MshA) (fa fb fc : Nat) (fk : Int) (w : World) (hm : MshSl w m a) (ha : fa < m.ss.length) (hb : fb < m.ss.length) (hc : fc < m.ss.length) (T : Tri) (eT : triA m.ss ⟨fa, fb, fc, fk⟩ = T) (hin : T.in) :
    Calls Tryz.prog 48 #[m.val a, .agg #[.int .i64 fa, .int .i64 fb, .int .i64 fc, .int .i64 fk]] w (RetW (.int .i64 (trn T.p T.q T.r)) w) := by
  have TR := hide (fun W h => mrtri_any m a fa fb fc fk W h ha hb hc)
  rw [eT] at TR
  unfold TriPost at TR
  have TN := hide (fun W => mrturn_any T.p T.q T.r W hin.1 hin.2.1 hin.2.2)
  unfold RetW at TN
  have HM := hide hm
  obtain ⟨ss, fs⟩ := m
  obtain ⟨A1, c1, A2, c2⟩ := a
  generalize trn T.p T.q T.r = n at *
  have X := ((Own.start w).alloc #[.slice A1 ss.length c1, .slice A2 fs.length c2] 25).alloc #[.int .i64 fa, .int .i64 fb, .int .i64 fc, .int .i64 fk] 65
  rw [World.size_alloc] at X
  have hr := X.r2
  clear hm ha hb hc eT hin
  show Calls _ _ #[.agg #[.slice A1 ss.length c1, .slice A2 fs.length c2], _] w _
  go_enter Tryz.func48, Tryz.ntmps48
  go_wp2_with fail
  refine (TR.out _ (HM.out.below X.1)).mono ?_
  rintro e w1 ⟨g, rfl, hB, -, hb⟩
  have HX := hide ((X.to hb).cons hB)
  clear hb hr X hB TR HM
  have hr := HX.out.r3
  go_wp2_with fail
  have C1 := fun x : OwnW w [(g, 95, #[.int .i64 T.p.x, .int .i64 T.p.y, .int .i64 T.q.x, .int .i64 T.q.y, .int .i64 T.r.x, .int .i64 T.r.y]), (w.heap.size + 1, 65, #[.int .i64 fa, .int .i64 fb, .int .i64 fc, .int .i64 fk]), (w.heap.size, 25, #[.slice A1 ss.length c1, .slice A2 fs.length c2])] => x.own.r1
  have NE : Nonempty (OwnW w [(g, 95, #[.int .i64 T.p.x, .int .i64 T.p.y, .int .i64 T.q.x, .int .i64 T.q.y, .int .i64 T.r.x, .int .i64 T.r.y]), (w.heap.size + 1, 65, #[.int .i64 fa, .int .i64 fb, .int .i64 fc, .int .i64 fk]), (w.heap.size, 25, #[.slice A1 ss.length c1, .slice A2 fs.length c2])]) := ⟨⟨_, HX.out⟩⟩
  refine wp_region_own (w := w) (L := [(g, 95, #[.int .i64 T.p.x, .int .i64 T.p.y, .int .i64 T.q.x, .int .i64 T.q.y, .int .i64 T.r.x, .int .i64 T.r.y]), (w.heap.size + 1, 65, #[.int .i64 fa, .int .i64 fb, .int .i64 fc, .int .i64 fk]), (w.heap.size, 25, #[.slice A1 ss.length c1, .slice A2 fs.length c2])]) (by kernel_rfl) (by kernel_rfl) HX.out ?_
  repeat (go_big_quiet_step ((rename_i x; exact own_call (TN.out _))))
  refine wpQuiet_nil ?_
  rintro _ ⟨⟨W, HX⟩, rfl⟩
  go_wp2
  go_ret
  exact ⟨rfl, HX.1⟩
end Go.Proofs.YtaaadejamjbcbaaGreatDoor
