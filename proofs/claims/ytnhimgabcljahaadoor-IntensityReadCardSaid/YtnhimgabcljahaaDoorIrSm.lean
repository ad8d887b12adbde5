/- The reference's sameInts and Same of tables (sewershedref19) at two that are equal: each returns true; nothing that was there is turned. (Printed by gen_itr.py.) -/
import Derived.Test.YtnhimgabcljahaaDoorItVal
import Derived.Test.YtnhimgabcljahaaDoorOwnQ
namespace Go.Proofs.YtnhimgabcljahaaDoor
open Go.RowKit

set_option maxHeartbeats 2000000 in
theorem rsameI_any (l : List Int) (A B : Option Addr) (c c' : Nat) (w : World) (hl : IntSl w A l) (hm : IntSl w B l) :
    Calls Tryd.prog 21 #[.slice A l.length c, .slice B l.length c'] w fun e w' => e = .returned (.bool true) ∧ Below w.heap.size w w' := by
  have hlen : l.length ≤ 9223372036854775807 := hl.1.1
  have HL := hide hl
  have HM := hide hm
  clear hl hm
  go_enter Tryd.func21, Tryd.ntmps21
  go_wp2
  go_loopw [5] (fun v wr => ∃ k : Nat, k ≤ l.length ∧ v = .int .i64 k ∧ Hid (Below w.heap.size w wr)) (fun v _ => l.length - (intOf v).toNat)
  case atStart => exact ⟨0, Nat.zero_le _, rfl, hide (Below.refl _ _)⟩
  case round =>
    obtain ⟨k, hk, rfl, HB⟩ := hrel
    by_cases hlt : k < l.length
    · have g2 : decide (k < l.length) = true := decide_eq_true hlt
      have g3 : (0 : Int) ≤ (k : Int) := by omega
      have g4 : (k : Int) < (l.length : Int) := by omega
      obtain ⟨b, off, rfl, hb1, hat⟩ := HL.out.2 (by omega)
      obtain ⟨b', off', rfl, hb2, hat'⟩ := HM.out.2 (by omega)
      have NE : Nonempty (OwnW w []) := ⟨⟨_, Own.start w⟩⟩
      have C1 := fun z : OwnW w [] => (z.own.1.cell (p := ⟨b, off + k, none⟩) hb1).trans (hat k hlt)
      have C2 := fun z : OwnW w [] => (z.own.1.cell (p := ⟨b', off' + k, none⟩) hb2).trans (hat' k hlt)
      clear hat hat'
      generalize l[k] = x at *
      have q1 : (x == x) = true := by simp
      have q2 : (x != x) = false := by simp [bne]
      go_wp2_with fail
      refine wp_region_own (w := w) (L := []) (by kernel_rfl) (by kernel_rfl) ⟨HB.out, fun _ h => by cases h⟩ ?_
      repeat (go_big_quiet_step (fail))
      refine wpQuiet_nil ?_
      rintro W3 ⟨⟨W3, HO⟩, rfl⟩
      have HB3 := hide HO.1
      clear NE C1 C2 HO
      go_wp2
      go_roundw
      case rel => exact ⟨k + 1, by omega, by go_num, HB3⟩
      case measure => simp [intOf]; omega
    · have g2 : decide (k < l.length) = false := decide_eq_false hlt
      go_wp2
      go_ret
      exact ⟨rfl, HB.out⟩
set_option maxHeartbeats 2000000 in
theorem rsame19_any (T : Tab) (a b : TabA) (w : World) (ha : TabSl w T a) (hb : TabSl w T b) : Calls Tryd.prog 9 #[T.val a, T.val b] w fun e w' => e = .returned (.bool true) ∧ Below w.heap.size w w' := by
  obtain ⟨A1, A2, A3, c1, c2, c3⟩ := a
  obtain ⟨B1, B2, B3, d1, d2, d3⟩ := b
  have X0 := ((Own.start w).alloc #[.slice A1 T.ds.length c1, .slice A2 T.ps.length c2, .slice A3 T.rows.length c3] 25).alloc #[.slice B1 T.ds.length d1, .slice B2 T.ps.length d2, .slice B3 T.rows.length d3] 25
  rw [World.size_alloc] at X0
  have X := hide X0
  clear X0
  have HA := hide ha
  have HC := hide hb
  have S1 := hide (fun W (h : Below w.heap.size w W) => rsameI_any T.ds A1 B1 c1 d1 W (ha.1.below h) (hb.1.below h))
  have S2 := hide (fun W (h : Below w.heap.size w W) => rsameI_any T.ps A2 B2 c2 d2 W (ha.2.1.below h) (hb.2.1.below h))
  have lr : T.rows.length ≤ 9223372036854775807 := by have := ha.2.2.1.1; unfold maxLen at this; omega
  clear ha hb
  have hr := X.out.r2
  go_enter Tryd.func9, Tryd.ntmps9
  go_wp2_with fail
  refine (S1.out _ X.out.1).mono ?_
  rintro e w1 ⟨rfl, h1⟩
  have X1 := hide (X.out.to h1)
  clear hr X h1 S1
  have hr := X1.out.r2
  go_wp2_with fail
  refine (S2.out _ X1.out.1).mono ?_
  rintro e w2 ⟨rfl, h2⟩
  have X2 := hide (X1.out.to h2)
  clear hr X1 h2 S2
  have hr := X2.out.r2
  go_wp2
  clear hr
  go_loopw [5] (fun v wr => ∃ k : Nat, k ≤ T.rows.length ∧ v = .int .i64 k ∧ Hid (Own w wr [(w.heap.size + 1, 25, #[.slice B1 T.ds.length d1, .slice B2 T.ps.length d2, .slice B3 T.rows.length d3]), (w.heap.size, 25, #[.slice A1 T.ds.length c1, .slice A2 T.ps.length c2, .slice A3 T.rows.length c3])])) (fun v _ => T.rows.length - (intOf v).toNat)
  case atStart => exact ⟨0, Nat.zero_le _, rfl, X2⟩
  case round =>
    clear X2
    obtain ⟨k, hk, rfl, HX⟩ := hrel
    have hr := HX.out.r2
    by_cases hlt : k < T.rows.length
    · have g2 : decide (k < T.rows.length) = true := decide_eq_true hlt
      have g3 : (0 : Int) ≤ (k : Int) := by omega
      have g4 : (k : Int) < (T.rows.length : Int) := by omega
      obtain ⟨p, off, R, r1, rfl, hp, hc, hs⟩ := HA.out.2.2.1.row hlt
      obtain ⟨p', off', R', r2, rfl, hp', hc', hs'⟩ := HC.out.2.2.1.row hlt
      generalize T.rows.getD k [] = row at *
      go_wp2_with fail
      clear hr
      have NE : Nonempty (OwnW w [(w.heap.size + 1, 25, #[.slice B1 T.ds.length d1, .slice B2 T.ps.length d2, .slice (some ⟨p', off', none⟩) T.rows.length d3]), (w.heap.size, 25, #[.slice A1 T.ds.length c1, .slice A2 T.ps.length c2, .slice (some ⟨p, off, none⟩) T.rows.length c3])]) := ⟨⟨_, HX.out⟩⟩
      have C0 := fun z : OwnW w [(w.heap.size + 1, 25, #[.slice B1 T.ds.length d1, .slice B2 T.ps.length d2, .slice (some ⟨p', off', none⟩) T.rows.length d3]), (w.heap.size, 25, #[.slice A1 T.ds.length c1, .slice A2 T.ps.length c2, .slice (some ⟨p, off, none⟩) T.rows.length c3])] => z.own.r2
      have C1 := fun z : OwnW w [(w.heap.size + 1, 25, #[.slice B1 T.ds.length d1, .slice B2 T.ps.length d2, .slice (some ⟨p', off', none⟩) T.rows.length d3]), (w.heap.size, 25, #[.slice A1 T.ds.length c1, .slice A2 T.ps.length c2, .slice (some ⟨p, off, none⟩) T.rows.length c3])] => (z.own.1.cell (p := ⟨p, off + k, none⟩) hp).trans hc
      have C2 := fun z : OwnW w [(w.heap.size + 1, 25, #[.slice B1 T.ds.length d1, .slice B2 T.ps.length d2, .slice (some ⟨p', off', none⟩) T.rows.length d3]), (w.heap.size, 25, #[.slice A1 T.ds.length c1, .slice A2 T.ps.length c2, .slice (some ⟨p, off, none⟩) T.rows.length c3])] => (z.own.1.cell (p := ⟨p', off' + k, none⟩) hp').trans hc'
      have K1 := fun z : OwnW w [(w.heap.size + 1, 25, #[.slice B1 T.ds.length d1, .slice B2 T.ps.length d2, .slice (some ⟨p', off', none⟩) T.rows.length d3]), (w.heap.size, 25, #[.slice A1 T.ds.length c1, .slice A2 T.ps.length c2, .slice (some ⟨p, off, none⟩) T.rows.length c3])] => rsameI_any row R R' r1 r2 z.W (hs.below z.own.1) (hs'.below z.own.1)
      refine wp_region_own (w := w) (L := [(w.heap.size + 1, 25, #[.slice B1 T.ds.length d1, .slice B2 T.ps.length d2, .slice (some ⟨p', off', none⟩) T.rows.length d3]), (w.heap.size, 25, #[.slice A1 T.ds.length c1, .slice A2 T.ps.length c2, .slice (some ⟨p, off, none⟩) T.rows.length c3])]) (by kernel_rfl) (by kernel_rfl) HX.out ?_
      repeat (go_big_quiet_step ((rename_i z; with_reducible exact own_call (K1 z))))
      refine wpQuiet_nil ?_
      rintro W3 ⟨⟨W3, HO⟩, rfl⟩
      have HX3 := hide HO
      clear NE C0 C1 C2 K1 HO
      go_wp2
      go_roundw
      case rel => exact ⟨k + 1, by omega, by go_num, HX3⟩
      case measure => simp [intOf]; omega
    · have g2 : decide (k < T.rows.length) = false := decide_eq_false hlt
      go_wp2
      go_ret
      exact ⟨rfl, HX.out.1⟩
end Go.Proofs.YtnhimgabcljahaaDoor
