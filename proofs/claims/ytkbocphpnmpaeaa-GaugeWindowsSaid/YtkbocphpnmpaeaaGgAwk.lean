/- The examples of chapter 17 hold; nothing that was there is turned. -/
import Derived.Test.YtkbocphpnmpaeaaGgCoa
import Derived.Test.YtkbocphpnmpaeaaGgFin
import Derived.Test.YtkbocphpnmpaeaaGgEqP
namespace Go.Proofs.Ytkbocphpnmpaeaa
open Go.RowKit

abbrev exA : Ser := ⟨0, 60, [5, -1, 7, 2]⟩
abbrev exB : Ser := ⟨0, 60, [5]⟩
theorem exA_v : vS exA = true := by decide
theorem exB_v : vS exB = true := by decide
theorem ex_ps : ps exA.ds 4 = 14 := by decide
theorem ex_ms : ms exA.ds 4 = 1 := by decide
theorem ex_gp : gpL exA.ds 4 = [(1, 1)] := by decide
theorem ex_gm : gm exA.ds 2 4 = 9 := by decide
theorem ex_gf : gf exA.ds 2 4 = 2 := by decide
theorem ex_ch : chL exA.ds 2 2 = [-1, 9] := by decide
theorem ex_fn : fnL exB.ds 3 1 = [1, 2, 2] := by decide
theorem ex_rowsA {w : World} {b : Nat} (h : Blk w b 3 #[.int .i64 5, .int .i64 (-1), .int .i64 7, .int .i64 2]) : SerSl w exA ⟨some ⟨b, 0, none⟩, 4⟩ := by
  refine ⟨⟨⟨by decide, by decide⟩, fun _ => ⟨b, 0, rfl, h.lt, fun i hi => ?_⟩⟩, Nat.le_refl 4, by decide, by decide⟩
  rw [Nat.zero_add, h.cell]
  have hi' : i < 4 := hi
  match i, hi' with
  | 0, _ => rfl
  | 1, _ => rfl
  | 2, _ => rfl
  | 3, _ => rfl
theorem ex_rowsB {w : World} {b : Nat} (h : Blk w b 3 #[.int .i64 5]) : SerSl w exB ⟨some ⟨b, 0, none⟩, 1⟩ := by
  refine ⟨⟨⟨by decide, by decide⟩, fun _ => ⟨b, 0, rfl, h.lt, fun i hi => ?_⟩⟩, Nat.le_refl 1, by decide, by decide⟩
  rw [Nat.zero_add, h.cell]
  have hi' : i < 1 := hi
  match i, hi' with
  | 0, _ => rfl
theorem SerPost.out {fr st : Int} {l : List Int} {er : Int} {w w' : World} {e : Ending} (h : SerPost ⟨fr, st, l⟩ er w e w') : Below w.heap.size w w' ∧ ∃ A c, e = .returned (.tuple #[.agg #[.int .i64 fr, .int .i64 st, .slice A l.length c], .int .i64 er]) ∧ SerSl w' ⟨fr, st, l⟩ ⟨A, c⟩ := by
  obtain ⟨hb, ⟨A, c⟩, e, hs⟩ := h
  exact ⟨hb, A, c, e, hs⟩
theorem IntSl.ofBlk1 {w : World} {b : Nat} {l : List Int} (h : Blk w b 3 (l.map (Value.int .i64)).toArray) (hn : l.length ≤ 9223372036854775807) (hr : ∀ i (h : i < l.length), -9223372036854775808 ≤ l[i] ∧ l[i] ≤ 9223372036854775807) : IntSl w (some ⟨b, 0, none⟩) l := by
  refine ⟨⟨hn, hr⟩, fun _ => ⟨b, 0, rfl, h.lt, fun i hi => ?_⟩⟩
  rw [Nat.zero_add, h.cell]
  simp [hi]
set_option maxRecDepth 100000 in
set_option maxHeartbeats 4000000 in
theorem awake_any (w : World) : Calls Try.prog 8 #[] w (BPost true w) := by
  have X := ((Own.start w).alloc #[.int .i64 5, .int .i64 (-1), .int .i64 7, .int .i64 2] 3).alloc #[.int .i64 0, .int .i64 60, .slice (some ⟨w.heap.size, 0, none⟩) 4 4] 24
  simp only [World.size_alloc] at X
  have hr := X.r2
  have T := hide (fun W h => (by
    have := total_in exA ⟨some ⟨w.heap.size, 0, none⟩, 4⟩ W h exA_v
    rw [show ps exA.ds exA.ds.length = 14 from ex_ps, show ms exA.ds exA.ds.length = 1 from ex_ms] at this
    exact this : Calls Try.prog 13 #[.agg #[.int .i64 0, .int .i64 60, .slice (some ⟨w.heap.size, 0, none⟩) 4 4]] W (GrPost 14 1 0 W)))
  have G := hide (fun W h => (by
    have := gaps_in exA ⟨some ⟨w.heap.size, 0, none⟩, 4⟩ W h exA_v
    rw [show gpL exA.ds exA.ds.length = [(1, 1)] from ex_gp] at this
    exact this : Calls Try.prog 18 #[.agg #[.int .i64 0, .int .i64 60, .slice (some ⟨w.heap.size, 0, none⟩) 4 4]] W (GapPost [(1, 1)] 0 W)))
  have M := hide (fun W h => (by
    have := greatest_in exA ⟨some ⟨w.heap.size, 0, none⟩, 4⟩ 2 W h exA_v (by decide) (by decide)
    rw [show gm exA.ds 2 exA.ds.length = 9 from ex_gm, show gf exA.ds 2 exA.ds.length = 2 from ex_gf] at this
    exact this : Calls Try.prog 19 #[.agg #[.int .i64 0, .int .i64 60, .slice (some ⟨w.heap.size, 0, none⟩) 4 4], .int .i64 2] W (GrPost 9 2 0 W)))
  have C := hide (fun W h => (by
    have := coarser_in exA ⟨some ⟨w.heap.size, 0, none⟩, 4⟩ 2 2 W h exA_v (by decide) (by decide) (by decide) (by decide)
    rw [ex_ch] at this
    exact this : Calls Try.prog 14 #[.agg #[.int .i64 0, .int .i64 60, .slice (some ⟨w.heap.size, 0, none⟩) 4 4], .int .i64 2] W (SerPost ⟨0, 120, [-1, 9]⟩ 0 W)))
  have F := hide (fun (b : Nat) W h => (by
    have := finer_in exB ⟨some ⟨b, 0, none⟩, 1⟩ 3 W h exB_v (by decide) (by decide) (by decide) (by decide) (by decide)
    rw [show fnL exB.ds 3 exB.ds.length = [1, 2, 2] from ex_fn] at this
    exact this : Calls Try.prog 11 #[.agg #[.int .i64 0, .int .i64 60, .slice (some ⟨b, 0, none⟩) 1 1], .int .i64 3] W (SerPost ⟨0, 20, [1, 2, 2]⟩ 0 W)))
  go_enter Try.func8, Try.ntmps8
  go_wp2_with fail
  refine (T.out _ (ex_rowsA (X.2 (w.heap.size, _, _) (by simp)))).mono ?_
  rintro e w1 ⟨rfl, hb⟩
  replace X := X.to hb
  clear hb hr
  have hr := X.r2
  go_wp2_with fail
  refine (G.out _ (ex_rowsA (X.2 (w.heap.size, _, _) (by simp)))).mono ?_
  rintro e w2 ⟨hb, A1, c1, rfl, hp⟩
  replace X := X.to hb
  have HP := hide hp
  clear hb hr hp
  have hr := X.r2
  go_wp2_with fail
  refine (M.out _ (ex_rowsA (X.2 (w.heap.size, _, _) (by simp)))).mono ?_
  rintro e w3 ⟨rfl, hb⟩
  replace X := X.to hb
  replace HP := hide (HP.out.below hb)
  clear hb hr
  have hr := X.r2
  go_wp2_with fail
  refine (C.out _ (ex_rowsA (X.2 (w.heap.size, _, _) (by simp)))).mono ?_
  intro e w4 hq
  obtain ⟨hb, A2, c2, rfl, hs2⟩ := hq.out
  replace X := (X.to hb).alloc #[.int .i64 0, .int .i64 120, .slice A2 2 c2] 24
  have b4 : Below w4.heap.size w4 (w4.alloc (.cells #[.int .i64 0, .int .i64 120, .slice A2 2 c2] 24)) := (Below.refl _ _).alloc (Nat.le_refl _) _
  replace HP := hide ((HP.out.below hb).below b4)
  have HS2 := hide (hs2.1.below b4)
  clear hb hr hq hs2 b4
  have hr := X.r3
  go_wp2_with fail
  have X5 := X.alloc #[.int .i64 5] 3
  simp only [World.size_alloc] at X5
  have b5 : Below (w4.alloc (.cells #[.int .i64 0, .int .i64 120, .slice A2 2 c2] 24)).heap.size (w4.alloc (.cells #[.int .i64 0, .int .i64 120, .slice A2 2 c2] 24)) ((w4.alloc (.cells #[.int .i64 0, .int .i64 120, .slice A2 2 c2] 24)).alloc (.cells #[.int .i64 5] 3)) := (Below.refl _ _).alloc (Nat.le_refl _) _
  refine (F.out _ _ (ex_rowsB (X5.2 (w4.heap.size + 1, _, _) (List.mem_cons_self ..)))).mono ?_
  intro e w6 hq
  obtain ⟨hb, A3, c3, rfl, hs3⟩ := hq.out
  have b6 : Below w6.heap.size w6 (w6.alloc (.cells #[.int .i64 0, .int .i64 20, .slice A3 3 c3] 24)) := (Below.refl _ _).alloc (Nat.le_refl _) _
  replace X := (X5.to hb).tail.alloc #[.int .i64 0, .int .i64 20, .slice A3 3 c3] 24
  replace HP := hide (((HP.out.below b5).below hb).below b6)
  replace HS2 := hide (((HS2.out.below b5).below hb).below b6)
  have HS3 := hide (hs3.1.below b6)
  clear hb hr hq hs3 b6 b5 X5 T G M C F
  generalize hW : w6.alloc (.cells #[.int .i64 0, .int .i64 20, .slice A3 3 c3] 24) = W at *
  have hr := X.r2
  have E1 : ∀ (V : World), PairSl V A1 [(1, 1)] → PairSl V (some ⟨W.heap.size, 0, none⟩) [(1, 1)] → Calls Try.prog 24 #[.slice A1 1 c1, .slice (some ⟨W.heap.size, 0, none⟩) 1 1] V fun e w' => e = .returned (.bool true) ∧ ∃ d, w' = V.drewN d := fun V h1 h2 => equalP_any [(1, 1)] [(1, 1)] A1 _ c1 1 V h1 h2 true (by simp)
  have XP := X.alloc #[.int .i64 1, .int .i64 1] 46
  have P2 : PairSl (W.alloc (.cells #[.int .i64 1, .int .i64 1] 46)) (some ⟨W.heap.size, 0, none⟩) [(1, 1)] := by
    refine ⟨by decide, fun _ => ⟨W.heap.size, 0, rfl, XP.r1.2.2, fun i hi => ?_⟩⟩
    have hi' : i < 1 := hi
    obtain rfl : i = 0 := by omega
    exact ⟨XP.r1.1 0, XP.r1.1 1⟩
  have b7 : Below W.heap.size W (W.alloc (.cells #[.int .i64 1, .int .i64 1] 46)) := (Below.refl _ _).alloc (Nat.le_refl _) _
  have EH := hide (E1 _ (HP.out.below b7) P2)
  have lt8 := X.r1.2.2
  clear E1 P2
  go_wp2_with fail
  refine EH.out.mono ?_
  rintro e w7 ⟨rfl, d, rfl⟩
  have B7 : Below W.heap.size W ((W.alloc (.cells #[.int .i64 1, .int .i64 1] 46)).drewN d) := below_drewN b7 d
  replace X := X.to B7
  replace HS2 := hide (HS2.out.below B7)
  replace HS3 := hide (HS3.out.below B7)
  clear EH XP b7 hr HP B7
  generalize hV : (W.alloc (.cells #[.int .i64 1, .int .i64 1] 46)).drewN d = V at *
  clear hW hV
  have hr := X.r2
  have X8 := X.alloc #[.int .i64 (-1), .int .i64 9] 3
  have b8 : Below V.heap.size V (V.alloc (.cells #[.int .i64 (-1), .int .i64 9] 3)) := (Below.refl _ _).alloc (Nat.le_refl _) _
  have E2 := hide (equalI_any [-1, 9] [-1, 9] A2 _ c2 2 _ (HS2.out.below b8) (IntSl.ofBlk1 (l := [-1, 9]) (X8.2 (V.heap.size, _, _) (List.mem_cons_self ..)) (by decide) (by decide)))
  go_wp2_with fail
  refine E2.out.mono ?_
  rintro e w8 ⟨rfl, hb⟩
  replace X := (X8.to hb).tail
  replace HS3 := hide ((HS3.out.below b8).below hb)
  clear E2 X8 b8 hb hr HS2
  have hr := X.r2
  rw [show eqB [-1, 9] [-1, 9] = true by decide]
  have X9 := X.alloc #[.int .i64 1, .int .i64 2, .int .i64 2] 3
  have b9 : Below w8.heap.size w8 (w8.alloc (.cells #[.int .i64 1, .int .i64 2, .int .i64 2] 3)) := (Below.refl _ _).alloc (Nat.le_refl _) _
  have E3 := hide (equalI_any [1, 2, 2] [1, 2, 2] A3 _ c3 3 _ (HS3.out.below b9) (IntSl.ofBlk1 (l := [1, 2, 2]) (X9.2 (w8.heap.size, _, _) (List.mem_cons_self ..)) (by decide) (by decide)))
  go_wp2_with fail
  refine E3.out.mono ?_
  rintro e w9 ⟨rfl, hb⟩
  replace X := (X9.to hb).tail
  clear E3 X9 b9 hb hr HS3
  rw [show eqB [1, 2, 2] [1, 2, 2] = true by decide]
  go_wp2
  go_ret
  exact ⟨rfl, X.1⟩
end Go.Proofs.Ytkbocphpnmpaeaa
