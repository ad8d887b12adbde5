/- The examples of chapter 15: awake returns true; nothing that was there is turned. -/
import Derived.Test.YtaaadejamjbcbaaDoorPars
import Derived.Test.YtaaadejamjbcbaaDoorMeMet
import Derived.Test.YtaaadejamjbcbaaDoorIntFn
import Derived.Test.YtaaadejamjbcbaaDoorOwn3
namespace Go.Proofs.YtaaadejamjbcbaaDoor
open Go Go.RowKit

def gcls : Cls := ⟨⟨#[103, 97, 114, 100, 101, 110]⟩, 250, 100, 400, 100⟩
def gtxt : List UInt8 := [103, 97, 114, 100, 101, 110, 32, 50, 53, 48, 32, 49, 48, 48, 32, 52, 48, 48, 32, 49, 48, 48, 10]
theorem g_valid : validB [gcls] = true := by rw [validB_one]; decide +kernel
theorem g_text : txL [gcls] = gtxt := by decide +kernel
theorem g_read : prsF gtxt = ([gcls], 0, 0) := by
  unfold prsF
  rw [if_neg (by decide), ← g_text]
  exact read_text g_valid
theorem g_met : meE [3000000, 3000000, 2000000] = 0 ∧ meL [3000000, 3000000, 2000000] = [1, 2, 1] := by decide +kernel
theorem IntSl.of_own15 {w W : World} {b : Nat} {t : TypeId} {c0 : Array Value} {L : List (Nat × TypeId × Array Value)} (h : Own w W ((b, t, c0) :: L)) (l : List Int) (e : c0 = (l.map (Value.int .i64)).toArray)
    (hl : l.length ≤ 9223372036854775807 ∧ ∀ i (h : i < l.length), -9223372036854775808 ≤ l[i] ∧ l[i] ≤ 9223372036854775807) : IntSl W (some ⟨b, 0, none⟩) l :=
  ⟨hl, fun _ => ⟨b, 0, rfl, h.r1.2.2, fun i hi => by rw [h.r1.1 (0 + i), e]; simp [hi]⟩⟩
theorem small315 (x y z : Int) (hx : 0 ≤ x ∧ x ≤ 3000000) (hy : 0 ≤ y ∧ y ≤ 3000000) (hz : 0 ≤ z ∧ z ≤ 3000000) : [x, y, z].length ≤ 9223372036854775807 ∧ ∀ i (h : i < [x, y, z].length), -9223372036854775808 ≤ [x, y, z][i] ∧ [x, y, z][i] ≤ 9223372036854775807 := by
  refine ⟨by simp, fun i h => ?_⟩
  match i, h with
  | 0, _ => simp; omega
  | 1, _ => simp; omega
  | 2, _ => simp; omega
set_option maxRecDepth 100000 in
set_option maxHeartbeats 2000000 in
theorem awake_any (w : World) (ht : TxtW w) : Calls Tryd.prog 8 #[] w (RetV (.bool true) w) := by
  have X := Own.start w
  have HT := hide ht
  have P := hide (fun W hW => parse_any gtxt W (by decide) hW)
  have M := hide (fun W A c h => metres_any [3000000, 3000000, 2000000] A c W h)
  have V := hide (fun W A c h => luvalid_any [gcls] A c W h)
  have EQ := hide (fun W A B c c' h h' => equalI_any [1, 2, 1] [1, 2, 1] A B c c' W h h')
  rw [g_valid] at V
  clear ht
  unfold PrsPost at P
  rw [g_read] at P
  simp only [show colI 0 = 0 from rfl] at P
  unfold MePost at M
  rw [g_met.1, g_met.2] at M
  go_enter Tryd.func8, Tryd.ntmps8
  go_wp2_with fail
  refine (P.out _ HT.out).mono ?_
  rintro e w1 ⟨hb, A, c, rfl, hsl, hcp⟩
  obtain ⟨bb, off, rfl, hbl, hat⟩ := hsl.2 (by simp)
  obtain ⟨c0, c1, c2, c3, c4⟩ := hat 0 (by simp)
  simp only [List.getElem_cons_zero, Nat.zero_mul, Nat.add_zero] at c0 c1 c2 c3 c4
  have SL := hide hsl
  replace X := (X.to hb).alloc #[.int .i64 0, .int .i64 0] 47
  replace X := X.alloc #[.int .i64 3000000, .int .i64 3000000, .int .i64 2000000] 3
  simp only [World.size_alloc] at X
  have hb0 := hb.size
  clear hb hsl hat
  have MS := hide (IntSl.of_own15 X [3000000, 3000000, 2000000] rfl (small315 _ _ _ (by omega) (by omega) (by omega)))
  have hr := X.r2
  go_wp2_with fail
  refine (M.out _ _ 3 MS.out).mono ?_
  rintro e w2 ⟨hb, A2, cc, rfl, hm, hmc⟩
  have hbw : Below w1.heap.size w1 w2 := below_via (((Below.refl _ w1).alloc (Nat.le_refl _) _).alloc (by simp) _) (by simp; omega) hb
  have d0 := (hbw.cell (p := ⟨bb, off, none⟩) hbl).trans c0
  have d1 := (hbw.cell (p := ⟨bb, off + 1, none⟩) hbl).trans c1
  have d2 := (hbw.cell (p := ⟨bb, off + 2, none⟩) hbl).trans c2
  have d3 := (hbw.cell (p := ⟨bb, off + 3, none⟩) hbl).trans c3
  have d4 := (hbw.cell (p := ⟨bb, off + 4, none⟩) hbl).trans c4
  have SL2 := hide (SL.out.below hbw)
  replace X := X.to hb
  have hr2 := X.r2
  replace X := X.alloc #[.int .i64 1, .int .i64 2, .int .i64 1] 3
  have hm2 := hide (hm.below ((Below.refl _ w2).alloc (Nat.le_refl _) (.cells #[.int .i64 1, .int .i64 2, .int .i64 1] 3)))
  have MS2 := hide (IntSl.of_own15 X [1, 2, 1] rfl (small315 _ _ _ (by omega) (by omega) (by omega)))
  have SL3 := hide (SL2.out.below ((Below.refl _ w2).alloc (Nat.le_refl _) (.cells #[.int .i64 1, .int .i64 2, .int .i64 1] 3)))
  have e0 : gcls.nm = ⟨#[103, 97, 114, 100, 101, 110]⟩ := rfl
  have e1 : gcls.se = 250 := rfl
  have e2 : gcls.we = 100 := rfl
  have e3 : gcls.ro = 400 := rfl
  have e4 : gcls.dr = 100 := rfl
  rw [e0] at d0
  rw [e1] at d1
  rw [e2] at d2
  rw [e3] at d3
  rw [e4] at d4
  clear hr c0 c1 c2 c3 c4 hb hbw hm e0 e1 e2 e3 e4
  go_wp2_with fail
  refine (EQ.out _ _ _ cc 3 hm2.out MS2.out).mono ?_
  rintro e w3 ⟨rfl, hb⟩
  have SL4 := hide (SL3.out.below hb)
  replace X := X.to hb
  clear hb hr2
  rw [show eqB [1, 2, 1] [1, 2, 1] = true from by decide]
  go_wp2_with fail
  refine (V.out _ _ c SL4.out).mono ?_
  rintro e w4 ⟨rfl, hb⟩
  replace X := X.to hb
  clear hb
  go_wp2
  go_ret
  exact ⟨rfl, X.1⟩
end Go.Proofs.YtaaadejamjbcbaaDoor
