/- slices.EqualFunc at one table that lies twice: true; nothing that was there is turned. -/
import Derived.Test.YtaaadejamjbcbaaGreatDoorPkLanduseAreas2
import Derived.Test.YtaaadejamjbcbaaGreatDoorPkLanduseAreas3
namespace Go.Proofs.YtaaadejamjbcbaaGreatDoor
open Go Go.RowKit

theorem eqRow {W : World} {g1 g2 n : Nat} {h : Nat → Int} (hn : n ≤ 16) (hb : ∀ x, i64 (h x)) (h1 : Blk W g1 3 (mkRow n fun x => .int .i64 (h x))) (h2 : Blk W g2 3 (mkRow n fun x => .int .i64 (h x))) :
    Calls Tryz.prog 15 #[.slice (some ⟨g1, 0, none⟩) n n, .slice (some ⟨g2, 0, none⟩) n n] W fun e w' => e = .returned (.bool true) ∧ Below W.heap.size W w' := by
  have s1 := IntSl.of_blk h1 (by omega) (fun x _ => hb x)
  have s2 := IntSl.of_blk h2 (by omega) (fun x _ => hb x)
  have := equalI_any _ _ _ _ n n W s1 s2
  rw [show eqB ((List.range n).map h) ((List.range n).map h) = true by simp [eqB]] at this
  simpa using this
set_option maxRecDepth 100000 in
set_option maxHeartbeats 2000000 in
theorem eqT_any (V1 V2 : Value) (B1 B2 : Nat) (gs1 gs2 : List Nat) (n : Nat) (f : Nat → Nat → Int) (w : World) (hn : n ≤ 16) (hl : gs1.length = gs2.length) (h300 : gs1.length ≤ 300) (hb : ∀ i x, i64 (f i x)) (h1 : Tr w B1 V1 gs1 n f) (h2 : Tr w B2 V2 gs2 n f) :
    Calls Tryz.prog 14 #[V1, V2, .func (.func 15) #[] #[]] w fun e w' => e = .returned (.bool true) ∧ Below w.heap.size w w' := by
  obtain ⟨A1, c1, rfl, _, k1⟩ := h1.slice
  obtain ⟨A2, c2, rfl, _, k2⟩ := h2.slice
  have HL := hide hl
  have H1 := hide h1
  have H2 := hide h2
  have K1 := hide k1
  have K2 := hide k2
  have q1 : ((gs1.length : Int) == (gs2.length : Int)) = true := by simp; omega
  have q2 : ((gs1.length : Int) != (gs2.length : Int)) = false := by simp; omega
  have EQ := hide (fun W g1 g2 (h : Nat → Int) hb h1 h2 => eqRow (W := W) (g1 := g1) (g2 := g2) (n := n) (h := h) hn hb h1 h2)
  clear h1 h2 k1 k2 hl
  go_enter Tryz.func14, Tryz.ntmps14
  go_wp2
  go_loopw [17] (fun v17 wr => ∃ i : Nat, i ≤ gs1.length ∧ v17 = .int .i64 i ∧ Hid (Below w.heap.size w wr)) (fun v17 _ => gs1.length - (intOf v17).toNat)
  case atStart => exact ⟨0, Nat.zero_le _, rfl, hide (Below.refl _ _)⟩
  case round =>
    obtain ⟨i, hi, rfl, HW⟩ := hrel
    by_cases hlt : i < gs1.length
    · have hlt2 : i < gs2.length := by have := HL.out; omega
      obtain ⟨g1, rfl, hg1, hc1⟩ := K1.out (by omega)
      obtain ⟨g2, rfl, hg2, hc2⟩ := K2.out (by omega)
      have r1 := (HW.out.cell (p := ⟨g1, i, none⟩) hg1).trans (hc1 i hlt)
      have r2 := (HW.out.cell (p := ⟨g2, i, none⟩) hg2).trans (hc2 i hlt2)
      have b1 := hide ((H1.out.r i hlt).below HW.out (H1.out.r i hlt).lt)
      have b2 := hide ((H2.out.r i hlt2).below HW.out (H2.out.r i hlt2).lt)
      have E := hide (EQ.out _ _ _ _ (hb i) b1.out b2.out)
      have i0 : (0 : Int) ≤ (i : Int) := by omega
      have i1 : (i : Int) < (gs1.length : Int) := by omega
      have i2 : (i : Int) < (gs2.length : Int) := by omega
      have d1 : decide (i < gs1.length) = true := decide_eq_true hlt
      clear hc1 hc2 b1 b2
      generalize gs1[i] = x1 at *
      generalize gs2[i] = x2 at *
      go_wp2_with fail
      refine E.out.mono ?_
      rintro e w2 ⟨rfl, hb2⟩
      have HW2 := hide (below_via HW.out HW.out.size hb2)
      clear hb2 E
      go_wp2
      go_roundw
      case rel => exact ⟨i + 1, by omega, by go_num, HW2⟩
      case measure => simp [intOf]; omega
    · go_wp2
      go_ret
      exact ⟨rfl, HW.out⟩
end Go.Proofs.YtaaadejamjbcbaaGreatDoor
