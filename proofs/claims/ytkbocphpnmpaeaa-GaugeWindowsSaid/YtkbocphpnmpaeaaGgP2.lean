/- Records of rain: missing depths, masses, gaps and chunks, as plain lists; rows of a block written cell by cell. -/
import Derived.Test.YtkbocphpnmpaeaaGgPlain
namespace Go.Proofs.Ytkbocphpnmpaeaa
open Go.RowKit

/-- how many of the first depths are missing -/
def ms (l : List Int) : Nat → Int | 0 => 0 | i + 1 => ms l i + if l.getD i 0 = -1 then 1 else 0
theorem ms_bd (l : List Int) : ∀ i, 0 ≤ ms l i ∧ ms l i ≤ (i : Int)
  | 0 => by simp [ms]
  | i + 1 => by
    have := ms_bd l i
    show 0 ≤ ms l i + (if l.getD i 0 = -1 then 1 else 0) ∧ ms l i + (if l.getD i 0 = -1 then 1 else 0) ≤ _
    split <;> omega
/-- a row of cells, place by place -/
def mkRow (n : Nat) (f : Nat → Value) : Array Value := ((List.range n).map f).toArray
theorem mkRow_size (n : Nat) (f : Nat → Value) : (mkRow n f).size = n := by simp [mkRow]
theorem mkRow_at (n : Nat) (f : Nat → Value) {i : Nat} (h : i < n) : (mkRow n f)[i]? = some (f i) := by simp [mkRow, h]
theorem mkRow_set (n : Nat) (f : Nat → Value) (i : Nat) (v : Value) : (mkRow n f).setIfInBounds i v = mkRow n (fun j => if j = i then v else f j) := by
  apply Array.ext
  · simp [mkRow]
  · intro j h1 h2
    simp only [mkRow, Array.size_setIfInBounds, List.size_toArray, List.length_map, List.length_range] at h1
    by_cases e : j = i
    · subst e; simp [mkRow]
    · rw [Array.getElem_setIfInBounds_ne (hj := by simpa [mkRow] using h1) (h := fun h => e h.symm)]
      simp [mkRow, e]
theorem mkRow_congr {n : Nat} {f g : Nat → Value} (h : ∀ i, i < n → f i = g i) : mkRow n f = mkRow n g := by
  unfold mkRow
  congr 1
  exact List.map_congr_left (fun i hi => h i (List.mem_range.1 hi))
theorem mkRow_made (n : Nat) (z : Value) : madeCells #[z] n = mkRow n (fun _ => z) := by
  apply Array.ext'
  rw [toList_madeCells_one]
  simp [mkRow, List.map_const']
/-- a block of the call's own that holds integers, read as a slice -/
theorem IntSl.of_blk {w : World} {g n : Nat} {t : TypeId} {f : Nat → Int} (h : Blk w g t (mkRow n (fun i => .int .i64 (f i)))) (hn : n ≤ 9223372036854775807) (hr : ∀ i, i < n → -9223372036854775808 ≤ f i ∧ f i ≤ 9223372036854775807) : IntSl w (some ⟨g, 0, none⟩) ((List.range n).map f) := by
  refine ⟨⟨by simpa using hn, fun i hi => ?_⟩, fun _ => ⟨g, 0, rfl, h.lt, fun i hi => ?_⟩⟩
  · simp only [List.length_map, List.length_range] at hi
    simpa using hr i hi
  · simp only [List.length_map, List.length_range] at hi
    rw [Nat.zero_add, h.cell, mkRow_at n _ hi]
    simp
/-- the sums of the first depths -/
def massL (l : List Int) : List Int := (List.range l.length).map fun i => ps l (i + 1)
theorem massL_length (l : List Int) : (massL l).length = l.length := by simp [massL]
theorem massL_at (l : List Int) {i : Nat} (h : i < l.length) : (massL l).getD i 0 = ps l (i + 1) := by simp [massL, h]
/-- the last run's end is set -/
def setHi (L : List (Int × Int)) (x : Int) : List (Int × Int) := L.dropLast ++ [((L.getLastD (0, 0)).1, x)]
/-- the runs of missing depths among the first ones -/
def gpL (l : List Int) : Nat → List (Int × Int)
  | 0 => []
  | i + 1 => if l.getD i 0 = -1 then (if 0 < i ∧ l.getD (i - 1) 0 = -1 then setHi (gpL l i) i else gpL l i ++ [((i : Int), (i : Int))]) else gpL l i
theorem setHi_length {L : List (Int × Int)} (h : L ≠ []) (x : Int) : (setHi L x).length = L.length := by
  have := List.length_pos_iff.2 h
  simp [setHi]; omega
theorem setHi_last (L : List (Int × Int)) (x : Int) : (setHi L x).getLastD (0, 0) = ((L.getLastD (0, 0)).1, x) := by simp [setHi]
/-- the last run ends at the last depth exactly if this one is missing -/
theorem gpL_last (l : List Int) : ∀ i, (0 < i → l.getD (i - 1) 0 = -1 → gpL l i ≠ [] ∧ ((gpL l i).getLastD (0, 0)).2 = (i : Int) - 1) ∧ (gpL l i ≠ [] → ((gpL l i).getLastD (0, 0)).2 = (i : Int) - 1 → 0 < i ∧ l.getD (i - 1) 0 = -1) ∧ ((gpL l i).length ≤ i ∧ (gpL l i ≠ [] → ((gpL l i).getLastD (0, 0)).2 ≤ (i : Int) - 1))
  | 0 => ⟨fun h => by omega, fun h => absurd rfl h, by simp [gpL], fun h => absurd rfl h⟩
  | i + 1 => by
    obtain ⟨h1, h2, h3, h4⟩ := gpL_last l i
    rw [show i + 1 - 1 = i by omega]
    have e : gpL l (i + 1) = if l.getD i 0 = -1 then (if 0 < i ∧ l.getD (i - 1) 0 = -1 then setHi (gpL l i) i else gpL l i ++ [((i : Int), (i : Int))]) else gpL l i := rfl
    by_cases c : l.getD i 0 = -1
    · rw [if_pos c] at e
      by_cases d : 0 < i ∧ l.getD (i - 1) 0 = -1
      · rw [if_pos d] at e
        obtain ⟨n1, n2⟩ := h1 d.1 d.2
        have len := setHi_length n1 (i : Int)
        have la := setHi_last (gpL l i) (i : Int)
        have pos := List.length_pos_iff.2 n1
        rw [e, la]
        refine ⟨fun _ _ => ⟨fun h => ?_, by simp⟩, fun _ _ => ⟨by omega, c⟩, by omega, fun _ => by simp⟩
        rw [h] at len; simp at len; omega
      · rw [if_neg d] at e
        rw [e]
        refine ⟨fun _ _ => ⟨by simp, by simp⟩, fun _ _ => ⟨by omega, c⟩, by simp; omega, fun _ => by simp⟩
    · rw [if_neg c] at e
      rw [e]
      refine ⟨fun _ h => absurd h c, fun hn h => ?_, by omega, fun hn => ?_⟩
      · have := h4 hn; omega
      · have := h4 hn; omega
/-- the cells of spans -/
def flatP : List (Int × Int) → List Value
  | [] => []
  | s :: l => .int .i64 s.1 :: .int .i64 s.2 :: flatP l
theorem flatP_length : ∀ l : List (Int × Int), (flatP l).length = l.length * 2
  | [] => rfl
  | s :: l => by simp only [flatP, List.length_cons, flatP_length l]; omega
theorem flatP_append : ∀ (l m : List (Int × Int)), flatP (l ++ m) = flatP l ++ flatP m
  | [], _ => rfl
  | x :: l, m => by simp only [flatP, List.cons_append, flatP_append l m]
theorem flatP_at : ∀ (l : List (Int × Int)) (i : Nat) (h : i < l.length), (flatP l)[i * 2]? = some (.int .i64 l[i].1) ∧ (flatP l)[i * 2 + 1]? = some (.int .i64 l[i].2)
  | [], _, h => by simp at h
  | s :: l, 0, _ => ⟨rfl, rfl⟩
  | s :: l, i + 1, h => by
    have k := flatP_at l i (by simpa using h)
    have e : (i + 1) * 2 = i * 2 + 1 + 1 := by omega
    rw [e]
    exact k
/-- the cells after the last run's end is set -/
theorem flatP_setHi {L : List (Int × Int)} (h : L ≠ []) (x : Int) : (flatP L).set ((L.length - 1) * 2 + 1) (.int .i64 x) = flatP (setHi L x) := by
  have e : L = L.dropLast ++ [L.getLast h] := (List.dropLast_concat_getLast h).symm
  have d : L.getLastD (0, 0) = L.getLast h := by rw [List.getLastD_eq_getLast?, List.getLast?_eq_some_getLast h]; rfl
  have n : L.dropLast.length = L.length - 1 := List.length_dropLast
  rw [setHi, d, flatP_append]
  conv => lhs; rw [e, flatP_append]
  rw [List.length_append, n]
  simp only [List.length_singleton]
  rw [show L.length - 1 + 1 - 1 = L.length - 1 by omega, List.set_append_right _ _ (by rw [flatP_length, n]; omega), flatP_length, n, show (L.length - 1) * 2 + 1 - (L.length - 1) * 2 = 1 by omega]
  rfl
/-- what a chunk gives: its sum, or a missing depth -/
def chV (p : List Int) : Int := if p.contains (-1) then -1 else ps p p.length
/-- a chunk of k depths -/
def part (l : List Int) (k i : Nat) : List Int := (l.drop (i * k)).take k
def chL (l : List Int) (k m : Nat) : List Int := (List.range m).map fun i => chV (part l k i)
theorem chL_succ (l : List Int) (k m : Nat) : chL l k (m + 1) = chL l k m ++ [chV (part l k m)] := by simp [chL, List.range_succ]
theorem chL_length (l : List Int) (k m : Nat) : (chL l k m).length = m := by simp [chL]
theorem part_length {l : List Int} {k m i : Nat} (h : l.length = m * k) (hi : i < m) : (part l k i).length = k := by
  have : (i + 1) * k ≤ m * k := Nat.mul_le_mul_right k hi
  rw [Nat.add_mul, Nat.one_mul] at this
  simp [part]; omega
theorem part_at {l : List Int} {k i j : Nat} (hj : j < k) : (part l k i).getD j 0 = l.getD (i * k + j) 0 := by
  simp [part, hj]
end Go.Proofs.Ytkbocphpnmpaeaa
