/- The reference's Hull and Meet: what each returns; nothing that was there is turned. -/
import Derived.Test.YtgflgnbbkhikcaaDoorSpRef
namespace Go.Proofs.YtgflgnbbkhikcaaDoor
open Go.RowKit

set_option maxHeartbeats 1000000 in
theorem rhull_any (a b : Sp) (w : World) : Calls Tryd.prog 29 #[a.val, b.val] w fun e w' => e = .returned (hullS a b).val ∧ Below w.heap.size w w' := by
  rcases Int.lt_or_le b.lo a.lo with m1 | m1 <;> rcases Int.lt_or_le a.hi b.hi with m2 | m2
  · have V : Hid (hullS a b = ⟨b.lo, b.hi⟩) := hide (by simp only [hullS]; congr 1 <;> split <;> omega)
    go_enter Tryd.func29, Tryd.ntmps29
    go_wp2
    exact bodyPost_ret (v := .agg #[.int .i64 b.lo, .int .i64 b.hi]) (by simp [results, Tryd.results29, go_sem]) rfl ⟨by rw [V.out], by go_grown⟩
  · have V : Hid (hullS a b = ⟨b.lo, a.hi⟩) := hide (by simp only [hullS]; congr 1 <;> split <;> omega)
    go_enter Tryd.func29, Tryd.ntmps29
    go_wp2
    exact bodyPost_ret (v := .agg #[.int .i64 b.lo, .int .i64 a.hi]) (by simp [results, Tryd.results29, go_sem]) rfl ⟨by rw [V.out], by go_grown⟩
  · have V : Hid (hullS a b = ⟨a.lo, b.hi⟩) := hide (by simp only [hullS]; congr 1 <;> split <;> omega)
    go_enter Tryd.func29, Tryd.ntmps29
    go_wp2
    exact bodyPost_ret (v := .agg #[.int .i64 a.lo, .int .i64 b.hi]) (by simp [results, Tryd.results29, go_sem]) rfl ⟨by rw [V.out], by go_grown⟩
  · have V : Hid (hullS a b = ⟨a.lo, a.hi⟩) := hide (by simp only [hullS]; congr 1 <;> split <;> omega)
    go_enter Tryd.func29, Tryd.ntmps29
    go_wp2
    exact bodyPost_ret (v := .agg #[.int .i64 a.lo, .int .i64 a.hi]) (by simp [results, Tryd.results29, go_sem]) rfl ⟨by rw [V.out], by go_grown⟩
set_option maxHeartbeats 1000000 in
theorem rmeet_any (a b : Sp) (w : World) : Calls Tryd.prog 28 #[a.val, b.val] w (RetSE (meetS a b) (meetE a b) w) := by
  rcases Int.lt_or_le a.lo b.lo with m1 | m1 <;> rcases Int.lt_or_le b.hi a.hi with m2 | m2
  · have V : Hid (meetV a b = ⟨b.lo, b.hi⟩) := hide (by simp only [meetV]; congr 1 <;> split <;> omega)
    rcases Int.lt_or_le b.hi b.lo with m3 | m3
    · have M : Hid (meetE a b = 21 ∧ meetS a b = Sp.zero) := hide (by simp only [meetE, meetS, V.out, if_neg (show ¬ b.lo ≤ b.hi by omega)]; exact ⟨trivial, trivial⟩)
      go_enter Tryd.func28, Tryd.ntmps28
      go_wp2
      exact bodyPost_ret (v := .tuple #[Sp.zero.val, .int .i64 21]) (by simp [results, Tryd.results28, Sp.zero, go_sem]) rfl (RetSE.mk (by go_grown) M.out.2 M.out.1)
    · have M : Hid (meetE a b = 0 ∧ meetS a b = ⟨b.lo, b.hi⟩) := hide (by simp only [meetE, meetS, V.out, if_pos m3]; exact ⟨trivial, trivial⟩)
      go_enter Tryd.func28, Tryd.ntmps28
      go_wp2
      exact bodyPost_ret (v := .tuple #[.agg #[.int .i64 b.lo, .int .i64 b.hi], .int .i64 0]) (by simp [results, Tryd.results28, go_sem]) rfl (RetSE.mk (s' := ⟨b.lo, b.hi⟩) (by go_grown) M.out.2 M.out.1)
  · have V : Hid (meetV a b = ⟨b.lo, a.hi⟩) := hide (by simp only [meetV]; congr 1 <;> split <;> omega)
    rcases Int.lt_or_le a.hi b.lo with m3 | m3
    · have M : Hid (meetE a b = 21 ∧ meetS a b = Sp.zero) := hide (by simp only [meetE, meetS, V.out, if_neg (show ¬ b.lo ≤ a.hi by omega)]; exact ⟨trivial, trivial⟩)
      go_enter Tryd.func28, Tryd.ntmps28
      go_wp2
      exact bodyPost_ret (v := .tuple #[Sp.zero.val, .int .i64 21]) (by simp [results, Tryd.results28, Sp.zero, go_sem]) rfl (RetSE.mk (by go_grown) M.out.2 M.out.1)
    · have M : Hid (meetE a b = 0 ∧ meetS a b = ⟨b.lo, a.hi⟩) := hide (by simp only [meetE, meetS, V.out, if_pos m3]; exact ⟨trivial, trivial⟩)
      go_enter Tryd.func28, Tryd.ntmps28
      go_wp2
      exact bodyPost_ret (v := .tuple #[.agg #[.int .i64 b.lo, .int .i64 a.hi], .int .i64 0]) (by simp [results, Tryd.results28, go_sem]) rfl (RetSE.mk (s' := ⟨b.lo, a.hi⟩) (by go_grown) M.out.2 M.out.1)
  · have V : Hid (meetV a b = ⟨a.lo, b.hi⟩) := hide (by simp only [meetV]; congr 1 <;> split <;> omega)
    rcases Int.lt_or_le b.hi a.lo with m3 | m3
    · have M : Hid (meetE a b = 21 ∧ meetS a b = Sp.zero) := hide (by simp only [meetE, meetS, V.out, if_neg (show ¬ a.lo ≤ b.hi by omega)]; exact ⟨trivial, trivial⟩)
      go_enter Tryd.func28, Tryd.ntmps28
      go_wp2
      exact bodyPost_ret (v := .tuple #[Sp.zero.val, .int .i64 21]) (by simp [results, Tryd.results28, Sp.zero, go_sem]) rfl (RetSE.mk (by go_grown) M.out.2 M.out.1)
    · have M : Hid (meetE a b = 0 ∧ meetS a b = ⟨a.lo, b.hi⟩) := hide (by simp only [meetE, meetS, V.out, if_pos m3]; exact ⟨trivial, trivial⟩)
      go_enter Tryd.func28, Tryd.ntmps28
      go_wp2
      exact bodyPost_ret (v := .tuple #[.agg #[.int .i64 a.lo, .int .i64 b.hi], .int .i64 0]) (by simp [results, Tryd.results28, go_sem]) rfl (RetSE.mk (s' := ⟨a.lo, b.hi⟩) (by go_grown) M.out.2 M.out.1)
  · have V : Hid (meetV a b = ⟨a.lo, a.hi⟩) := hide (by simp only [meetV]; congr 1 <;> split <;> omega)
    rcases Int.lt_or_le a.hi a.lo with m3 | m3
    · have M : Hid (meetE a b = 21 ∧ meetS a b = Sp.zero) := hide (by simp only [meetE, meetS, V.out, if_neg (show ¬ a.lo ≤ a.hi by omega)]; exact ⟨trivial, trivial⟩)
      go_enter Tryd.func28, Tryd.ntmps28
      go_wp2
      exact bodyPost_ret (v := .tuple #[Sp.zero.val, .int .i64 21]) (by simp [results, Tryd.results28, Sp.zero, go_sem]) rfl (RetSE.mk (by go_grown) M.out.2 M.out.1)
    · have M : Hid (meetE a b = 0 ∧ meetS a b = ⟨a.lo, a.hi⟩) := hide (by simp only [meetE, meetS, V.out, if_pos m3]; exact ⟨trivial, trivial⟩)
      go_enter Tryd.func28, Tryd.ntmps28
      go_wp2
      exact bodyPost_ret (v := .tuple #[.agg #[.int .i64 a.lo, .int .i64 a.hi], .int .i64 0]) (by simp [results, Tryd.results28, go_sem]) rfl (RetSE.mk (s' := ⟨a.lo, a.hi⟩) (by go_grown) M.out.2 M.out.1)
end Go.Proofs.YtgflgnbbkhikcaaDoor
