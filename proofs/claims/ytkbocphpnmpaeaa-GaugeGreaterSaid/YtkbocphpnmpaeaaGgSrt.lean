/- slices.IsSorted at integers that ascend: true; nothing that was there is turned. -/
import Derived.Test.YtkbocphpnmpaeaaOwnQ
import Derived.Test.YtkbocphpnmpaeaaGgFn
namespace Go.Proofs.Ytkbocphpnmpaeaa
open Go.RowKit

set_option maxHeartbeats 400000 in
theorem isnan_any (x : Int) (w : World) : Calls Try.prog 56 #[.int .i64 x] w fun e w' => e = .returned (.bool false) ∧ w = w' := by
  go_enter Try.func56, Try.ntmps56
  go_wp2
  go_ret
  exact ⟨ret_bool (by simp), rfl⟩
set_option maxHeartbeats 400000 in
theorem less_not (x y : Int) (w : World) (h : y ≤ x) : Calls Try.prog 45 #[.int .i64 x, .int .i64 y] w fun e w' => e = .returned (.bool false) ∧ w = w' := by
  have N := hide (fun z W => isnan_any z W)
  have q : decide (x < y) = false := decide_eq_false (by omega)
  go_enter Try.func45, Try.ntmps45
  go_wp2_with fail
  refine (N.out _ _).mono ?_
  rintro e w1 ⟨rfl, rfl⟩
  go_wp2
  go_ret
  exact ⟨rfl, rfl⟩
set_option maxRecDepth 100000 in
set_option maxHeartbeats 1000000 in
theorem sorted_any (l : List Int) (A : Option Addr) (c : Nat) (w : World) (hl : IntSl w A l) (hs : ∀ i, i + 1 < l.length → l.getD i 0 ≤ l.getD (i + 1) 0) : Calls Try.prog 28 #[.slice A l.length c] w (BPost true w) := by
  have HL := hide hl
  have HSO := hide hs
  have le : l.length ≤ 9223372036854775807 := hl.1.1
  have s1 : IntKind.i64.wrap ((l.length : Int) - 1) = (l.length : Int) - 1 := IntWalk.i64_in _ (by omega)
  clear hl hs
  go_enter Try.func28, Try.ntmps28
  go_wp2
  have XH := hide (Own.start w)
  go_loopw [3] (fun v3 wr => ∃ i : Int, -1 ≤ i ∧ i ≤ (l.length : Int) - 1 ∧ v3 = .int .i64 i ∧ Hid (Own w wr [])) (fun v3 _ => (intOf v3).toNat)
  case atStart => exact ⟨_, by omega, by omega, rfl, XH⟩
  case round =>
    obtain ⟨i0, hi, hi2, rfl, Y⟩ := hrel
    by_cases hlt : 0 < i0
    · obtain ⟨i, rfl⟩ : ∃ i : Nat, i0 = (i : Int) := ⟨i0.toNat, by omega⟩
      obtain ⟨b, off, rfl, hbl, hat⟩ := HL.out.atg (show 0 < l.length by omega)
      have c0 := hat i (by omega)
      have c1 := hat (i - 1) (by omega)
      have so := HSO.out (i - 1) (by omega)
      rw [show i - 1 + 1 = i by omega] at so
      have s2 : IntKind.i64.wrap ((i : Int) - 1) = ((i - 1 : Nat) : Int) := (IntWalk.i64_in _ (by omega)).trans (by omega)
      have g0 : (0 : Int) ≤ (i : Int) := by omega
      have g1 : (i : Int) < (l.length : Int) := by omega
      have g2 : (0 : Int) ≤ ((i - 1 : Nat) : Int) := by omega
      have g3 : ((i - 1 : Nat) : Int) < (l.length : Int) := by omega
      have LE := hide (fun W => less_not (l.getD i 0) (l.getD (i - 1) 0) W so)
      have HX := hide Y.out
      have hj : i - 1 < i ∧ i ≤ l.length - 1 := by omega
      clear hat so s1
      generalize l.getD i 0 = x at *
      generalize l.getD (i - 1) 0 = y at *
      generalize hjj : i - 1 = j at *
      have HJ := hide hjj
      clear hjj
      have NE : Nonempty (OwnW w []) := ⟨⟨_, HX.out⟩⟩
      have C1 := fun z : OwnW w [] => (z.own.1.cell (p := ⟨b, off + i, none⟩) hbl).trans c0
      have C2 := fun z : OwnW w [] => (z.own.1.cell (p := ⟨b, off + j, none⟩) hbl).trans c1
      go_wp2_with fail
      refine wp_region_own (w := w) (L := []) (by kernel_rfl) (by kernel_rfl) HX.out ?_
      repeat (go_big_quiet_step ((rename_i x; exact own_same (LE.out _))))
      refine wpQuiet_nil ?_
      rintro _ ⟨⟨W, HX⟩, rfl⟩
      have HW := hide HX
      clear HX
      go_wp2
      go_roundw
      case rel => exact ⟨(j : Int), by omega, by omega, by go_num, HW⟩
      case measure => simp [intOf]; omega
    · go_wp2
      go_ret
      exact ⟨rfl, Y.out.1⟩
end Go.Proofs.Ytkbocphpnmpaeaa
