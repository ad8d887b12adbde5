/- slices.Repeat of one integer: a row of the call's own that holds it k times; nothing that was there is turned. -/
import Derived.Test.YtkbocphpnmpaeaaGgTot
import Derived.Test.YtkbocphpnmpaeaaShelf4
import Derived.Laws.CopyOwn
import Derived.Deep.RegionLaw
namespace Go.Proofs.Ytkbocphpnmpaeaa
open Go.RowKit

/-- a row of k integers of which the first m are written -/
def repL (k m : Nat) (v : Int) : List Value := List.replicate m (.int .i64 v) ++ List.replicate (k - m) (.int .i64 0)
theorem repL_length {k m : Nat} (h : m ≤ k) (v : Int) : (repL k m v).length = k := by simp [repL]; omega
theorem repL_zero (k : Nat) (v : Int) : repL k 0 v = List.replicate k (.int .i64 0) := by simp [repL]
theorem repL_all (k : Nat) (v : Int) : repL k k v = List.replicate k (.int .i64 v) := by simp [repL]
theorem repL_at {k m j : Nat} (v : Int) (h : j < m) : (repL k m v)[j]? = some (.int .i64 v) := by
  rw [repL, List.getElem?_append_left (by simpa using h)]
  simp [h]
theorem repL_splice {k m j : Nat} (v : Int) : splice (repL k m v) m (List.replicate j (.int .i64 v)) = repL k (m + j) v := by
  have e1 : (repL k m v).take m = List.replicate m (.int .i64 v) := by simp [repL]
  have e2 : (repL k m v).drop (m + j) = List.replicate (k - (m + j)) (.int .i64 0) := by
    rw [repL, List.drop_append]
    simp
    omega
  rw [splice, e1, List.length_replicate, e2, repL, ← List.append_assoc, List.replicate_append_replicate]
/-- a row of the call's own that holds k times v -/
def RepPost (v : Int) (k : Nat) (w : World) (e : Ending) (w' : World) : Prop :=
  Below w.heap.size w w' ∧ ∃ g, e = .returned (.slice (some ⟨g, 0, none⟩) k k) ∧ w.heap.size ≤ g ∧ w'.heap[g]? = some (.cells (List.replicate k (.int .i64 v)).toArray 3 (0, 0))
theorem RepPost.mk {v : Int} {k g : Nat} {w w' : World} (hb : Below w.heap.size w w') (hg : w.heap.size ≤ g) (h : w'.heap[g]? = some (.cells (repL k k v).toArray 3 (0, 0))) : RepPost v k w (.returned (.slice (some ⟨g, 0, none⟩) k k)) w' := by
  rw [repL_all] at h
  exact ⟨hb, g, rfl, hg, h⟩
theorem int_size17 : (Try.prog.info? 3).map (·.size) = some 1 := by kernel_rfl
set_option maxRecDepth 100000 in
set_option maxHeartbeats 400000 in
theorem repeat_any (b off c k : Nat) (v : Int) (w : World) (hk : 1 ≤ k) (hk2 : k ≤ 10000) (hc : w.cell? ⟨b, off, none⟩ = some (.int .i64 v)) :
    Calls Try.prog 37 #[.slice (some ⟨b, off, none⟩) 1 c, .int .i64 (k : Int)] w (RepPost v k w) := by
  obtain ⟨i0, hi0, hz0, hz1, hz2⟩ := info_parts int_info17
  have MK : ∀ W : World, (Instr.makeSlice 22 (.int .i64 (k : Int)) (.int .i64 (k : Int))).run Try.prog W = .ok (.slice (some ⟨W.heap.size, 0, none⟩) k k) (W.alloc (.cells (repL k 0 v).toArray 3)) := fun W => by
    have := run_make_rowN (P := Try.prog) 22 3 i0 (.int .i64 0) Try.underlying22 hi0 hz0 .i64 .i64 k k (by omega) (by rw [hz2]; omega) (by omega) W
    rw [hz1] at this
    rw [Nat.mul_one] at this
    rw [show (repL k 0 v).toArray = madeCells (Value.int .i64 0).cells k from Array.ext' (by rw [repL_zero]; exact (toList_madeCells_one (.int .i64 0) k).symm)]
    exact this
  have M0 := fun W => Try.bits_Mul 1 k (by omega) (by omega) W
  have e1 : 1 * k / 18446744073709551616 = 0 := by omega
  have e2 : 1 * k % 18446744073709551616 = k := by omega
  rw [e1, e2] at M0
  have M := hide M0
  have kp : ¬ (k : Int) < 0 := by omega
  have u1 : IntKind.u64.wrap (k : Int) = (k : Int) := IntWalk.u64_in _ (by omega)
  clear M0 e1 e2
  go_enter Try.func37, Try.ntmps37
  have u2 := IntWalk.i64_in (k : Int) (by omega)
  have q1 : decide ((9223372036854775807 : Int) < (k : Int)) = false := decide_eq_false (by omega)
  go_wp2_with fail
  refine (M.out _).mono ?_
  rintro e w1 ⟨rfl, rfl⟩
  have hB0 : Below w1.heap.size w1 (w1.alloc (.cells (repL k 0 v).toArray 3)) := (Below.refl _ _).alloc (Nat.le_refl _) _
  have hc0 : (w1.alloc (.cells (repL k 0 v).toArray 3)).cell? ⟨b, off, none⟩ = some (.int .i64 v) := (hB0.cell (p := ⟨b, off, none⟩) (lt_of_cell hc)).trans hc
  have hg0 : (w1.alloc (.cells (repL k 0 v).toArray 3)).heap[w1.heap.size]? = some (.cells (repL k 0 v).toArray 3 (0, 0)) := heap_alloc_new w1 _
  have hsrc : ∀ (j : Nat) x, ([Value.int .i64 v] : List Value)[j]? = some x → (w1.alloc (.cells (repL k 0 v).toArray 3)).cell? ((⟨b, off, none⟩ : Addr).add j) = some x := fun j x hx => by
    cases j with
    | zero => simp at hx; subst hx; rw [show (⟨b, off, none⟩ : Addr).add 0 = ⟨b, off, none⟩ by simp [Addr.add]]; exact hc0
    | succ j => simp at hx
  have RC := run_copy_row (P := Try.prog) (w1.alloc (.cells (repL k 0 v).toArray 3)) 22 22 3 3 w1.heap.size 0 k k ⟨b, off, none⟩ 1 c (repL k 0 v).toArray 3 [.int .i64 v] Try.underlying22 int_size17 hg0 (by simp [Nat.min_def]; omega) hsrc (by simp [repL]; omega) (by simp [Value.oneCell'])
  have ER : List.take 0 (repL k 0 v).toArray.toList ++ [Value.int .i64 v] ++ List.drop (0 + [Value.int .i64 v].length) (repL k 0 v).toArray.toList = repL k 1 v := by
    have := repL_splice (k := k) (m := 0) (j := 1) v
    simp only [splice, Nat.zero_add, List.length_replicate] at this
    simpa using this
  rw [ER] at RC
  have HB := hide (And.intro (below_setRow hB0 (Nat.le_refl _) (repL k 1 v).toArray) (setRow_heap _ _ _ (repL k 1 v).toArray _ _ hg0))
  have hlen1 : goInt ([Value.int .i64 v] : List Value).length = .int .i64 1 := rfl
  rw [hlen1] at RC
  clear hsrc ER hlen1 hc0 hg0 hB0
  go_wp2
  have hcw := hide hc
  clear hc RC MK M
  generalize hW : World.setRow _ w1.heap.size (repL k 1 v).toArray = W2 at *
  clear hW
  go_loopw [8] (fun v8 wr => ∃ m : Nat, 1 ≤ m ∧ m ≤ k ∧ v8 = .int .i64 (m : Int) ∧ Hid (Below w1.heap.size w1 wr ∧ wr.heap[w1.heap.size]? = some (.cells (repL k m v).toArray 3 (0, 0)))) (fun v8 _ => k - (intOf v8).toNat)
  case atStart => exact ⟨1, Nat.le_refl _, hk, rfl, HB⟩
  case round =>
    obtain ⟨m, m1, mk, rfl, Y⟩ := hrel
    by_cases hlt : m < k
    · have g0 : (m : Int) < (k : Int) := by omega
      obtain ⟨j, hj, hj1, hj2, hj3⟩ : ∃ j, j = Nat.min m (k - m) ∧ m + j ≤ k ∧ j ≤ m ∧ 1 ≤ j := by
        refine ⟨Nat.min m (k - m), rfl, ?_⟩
        show m + min m (k - m) ≤ k ∧ min m (k - m) ≤ m ∧ 1 ≤ min m (k - m)
        omega
      have HJ := hide hj
      clear hj
      have q0 : ¬ (k : Int) = (m : Int) := by omega
      have q00 : ¬ k = m := by omega
      have t1 : ((m : Int)).toNat = m := by omega
      have s1 := IntWalk.i64_in ((m : Int) + (j : Int)) (by omega)
      have hB := Y.out.1
      have hg := Y.out.2
      have hsrc : ∀ (i : Nat) x, (List.replicate j (Value.int .i64 v))[i]? = some x → wr.drew.cell? ((⟨w1.heap.size, 0, none⟩ : Addr).add i) = some x := fun i x hx => by
        have hi : i < j := by
          have := (List.getElem?_eq_some_iff.1 hx).1
          simpa using this
        rw [show (⟨w1.heap.size, 0, none⟩ : Addr).add i = ⟨w1.heap.size, i, none⟩ by unfold Addr.add; split <;> simp_all]
        have h1 : wr.drew.cell? ⟨w1.heap.size, i, none⟩ = (repL k m v)[i]? := by
          have : wr.drew.heap[w1.heap.size]? = some (Obj.cells (repL k m v).toArray 3 (0, 0)) := hg
          simp [World.cell?, this]
        rw [h1, repL_at v (by omega)]
        simpa [hi] using hx
      go_wp2_with fail
      go_region_law (refine step_copy_splice rfl (.tmp 41) (.tmp 44) 22 22 rfl 3 Try.underlying22 int_size17 (some ⟨w1.heap.size, m, none⟩) (some ⟨w1.heap.size, 0, none⟩) (k - m) (k - m) m k (by go_simp) (by go_simp) w1.heap.size m (repL k m v) 3 hg (List.replicate j (.int .i64 v)) (by rw [List.length_replicate]; exact HJ.out) (fun _ => ⟨rfl, _, rfl, hsrc⟩) (by rw [List.length_replicate, repL_length mk]; exact hj1) (by intro x hx; rw [List.eq_of_mem_replicate hx]; rfl) w1.heap.size w1 (hB.drew) (Nat.le_refl _) ?_; intro w4 hg4 hb4)
      have HY := hide (And.intro hb4 hg4.out)
      rw [repL_splice] at HY
      clear hsrc hg hB hb4 hg4
      go_simp
      go_wp2
      go_roundw
      case rel => exact ⟨m + j, by omega, hj1, by go_num, HY⟩
      case measure => simp [intOf]; omega
    · obtain rfl : m = k := by omega
      go_wp2
      go_ret
      exact RepPost.mk Y.out.1 (Nat.le_refl _) Y.out.2
end Go.Proofs.Ytkbocphpnmpaeaa
