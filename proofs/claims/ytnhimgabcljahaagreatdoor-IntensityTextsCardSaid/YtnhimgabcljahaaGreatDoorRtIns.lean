/- slices.Clone and slices.Insert of one number in the midst of a row of the call's own: what the row holds then; nothing below it is turned. -/
import Derived.Shelf.Spec.SlicesInsertGrow
import Derived.Shelf.Spec.SlicesInsert
import Derived.Laws.IdiomCopy
import Derived.Lib.LazyBuf
import Derived.Test.YtnhimgabcljahaaGreatDoorOwn2
namespace Go.Proofs.YtnhimgabcljahaaGreatDoor
open Go Go.RowKit

def insR : Go.Shelf.Ren := ⟨fun | 21 => 27 | 27 => 41 | 28 => 42 | 35 => 55 | 39 => 72 | n => n, fun | 22 => 22 | n => n, fun | n => n⟩
theorem insL : Go.Proofs.Lays2.n21 Tryz.prog insR := {
  mixed := by kernel_rfl
  f21 := Tryz.func27.trans (congrArg some (by kernel_rfl))
  f27 := Tryz.func41.trans (congrArg some (by kernel_rfl))
  f28 := Tryz.func42.trans (congrArg some (by kernel_rfl))
  f35 := Tryz.func55.trans (congrArg some (by kernel_rfl))
  f39 := Tryz.func72.trans (congrArg some (by kernel_rfl))
  t0 := Tryz.underlying0
  a0 := Tryz.isAgg0
  z0 := Tryz.sizeOf0
  v0 := Tryz.zeroValue0
  t3 := Tryz.underlying3
  a3 := Tryz.isAgg3
  z3 := Tryz.sizeOf3
  v3 := Tryz.zeroValue3
  t4 := Tryz.underlying4
  a4 := Tryz.isAgg4
  z4 := Tryz.sizeOf4
  v4 := Tryz.zeroValue4
  t22 := Tryz.underlying22
  a22 := Tryz.isAgg22
  z22 := Tryz.sizeOf22
  v22 := Tryz.zeroValue22
  i3 := by kernel_rfl }
theorem two_at {cs : List Value} {k : Nat} {x : Value} (hk : k < cs.length) {j : Nat} {v : Value} (h : (cs.take k ++ x :: cs.drop k)[j]? = some v) :
    (j < k ∧ cs[j]? = some v) ∨ (j = k ∧ v = x) ∨ (k < j ∧ j ≤ cs.length ∧ cs[j - 1]? = some v) := by
  have hl : (cs.take k).length = k := by rw [List.length_take]; omega
  rcases Nat.lt_trichotomy j k with h1 | h1 | h1
  · rw [List.getElem?_append_left (by omega), List.getElem?_take, if_pos h1] at h
    exact .inl ⟨h1, h⟩
  · rw [List.getElem?_append_right (by omega), hl, h1, Nat.sub_self] at h
    simp at h
    exact .inr (.inl ⟨h1, h.symm⟩)
  · rw [List.getElem?_append_right (by omega), hl] at h
    obtain ⟨d, hd⟩ : ∃ d, j - k = d + 1 := ⟨j - k - 1, by omega⟩
    rw [hd, List.getElem?_cons_succ, List.getElem?_drop] at h
    have e : k + d = j - 1 := by omega
    rw [e] at h
    have := (List.getElem?_eq_some_iff.1 h).1
    exact .inr (.inr ⟨h1, by omega, h⟩)
theorem below_setCells_ {B b : Nat} {a : World} (hb : B ≤ b) : ∀ (vs : List Value) (o : Nat) (w : World), Below B a w → Below B a (w.setCells b o vs)
  | [], _, _, h => h
  | v :: r, o, w, h => below_setCells_ hb r (o + 1) _ (h.setCell (by exact hb) v)
/-- what Insert leaves -/
def InsPost (B n : Nat) (cs : List Value) (w : World) (e : Ending) (w' : World) : Prop :=
  Below B w w' ∧ ∃ g cap : Nat, e = .returned (.slice (some ⟨g, 0, none⟩) (n + 1) cap) ∧ B ≤ g ∧ g < w'.heap.size ∧ n + 1 ≤ cap ∧ (∀ (j : Nat) v, cs[j]? = some v → w'.cell? ⟨g, j, none⟩ = some v) ∧ ∀ j, w'.frozen? ⟨g, j, none⟩ = false
set_option maxRecDepth 100000 in
theorem insert_any (B n cap k g vb : Nat) (cs cur : List Value) (x : Value) (w : World) (hk : k < n) (hcl : cs.length = n) (hn : n ≤ 1000) (hnc : n ≤ cap) (hcm : cap ≤ maxLen)
    (hg : w.heap[g]? = some (.cells cur.toArray 3 (0, 0))) (hcs : cur.length = cap) (htk : cur.take n = cs) (h1c : ∀ v ∈ cs, v.oneCell' = true) (hx : x.oneCell' = true)
    (hv : w.heap[vb]? = some (.cells #[x] 3 (0, 0))) (hne : vb ≠ g) (hB : B ≤ g) (hBw : B ≤ w.heap.size) :
    Calls Tryz.prog 27 #[.slice (some ⟨g, 0, none⟩) n cap, .int .i64 k, .slice (some ⟨vb, 0, none⟩) 1 1] w (InsPost B n (cs.take k ++ x :: cs.drop k) w) := by
  have hcg : ∀ j, w.cell? ⟨g, j, none⟩ = cur[j]? := fun j => by simp [World.cell?, hg]
  have hgl : g < w.heap.size := (Array.getElem?_eq_some_iff.1 hg).1
  have hc0 : ∀ j v, cs[j]? = some v → w.cell? ⟨g, 0 + j, none⟩ = some v := fun j v h => by
    rw [hcg, Nat.zero_add]
    rw [← htk, List.getElem?_take] at h
    split at h
    · exact h
    · cases h
  have hv0 : ∀ (j : Nat) v, ([x] : List Value)[j]? = some v → w.cell? ⟨vb, 0 + j, none⟩ = some v := fun j v h => by
    cases j with
    | zero => simp at h; subst h; simp [World.cell?, hv]
    | succ j => simp at h
  have hdl : (cs.drop k).length = n - k := by rw [List.length_drop, hcl]
  by_cases hr : cap < n + 1
  · refine (Any2.slices_Insert_int_grow insL g 0 n cap k vb 0 1 1 cs [x] w hk (by omega) hnc hr (by omega) hcl rfl hc0 hv0 h1c (by intro v hv'; simp at hv'; subst hv'; exact hx)).mono ?_
    rintro e w' ⟨rfl, rfl⟩
    have hgc : n + 1 ≤ grownCap w (n + 1) cap (insR.t 3) := grownCap_ge w _ _ _
    generalize grownCap w (n + 1) cap (insR.t 3) = gc at *
    have hsz : n + 1 ≤ ((cs.take k).toArray ++ Builtin.zeroCells (Value.int .i64 0).cells (n + 1 - k) ++ Builtin.zeroCells (Value.int .i64 0).cells (gc - (n + 1))).size := by
      have hz : (Value.int .i64 0).cells.size = 1 := rfl
      simp only [Array.size_append, Builtin.zeroCells, Array.size_map, Array.size_range, hz, List.size_toArray, List.length_take]
      omega
    have hlow : ∀ j v, j < k → cs[j]? = some v → ((cs.take k).toArray ++ Builtin.zeroCells (Value.int .i64 0).cells (n + 1 - k) ++ Builtin.zeroCells (Value.int .i64 0).cells (gc - (n + 1)))[j]? = some v := fun j v h1 h2 => by
      have hl : j < (cs.take k).toArray.size := by simp; omega
      rw [Array.getElem?_append_left (by rw [Array.size_append]; omega), Array.getElem?_append_left hl]
      simp [h1, h2]
    generalize (cs.take k).toArray ++ Builtin.zeroCells (Value.int .i64 0).cells (n + 1 - k) ++ Builtin.zeroCells (Value.int .i64 0).cells (gc - (n + 1)) = A at *
    have hA : ∀ j, ((w.alloc (.cells A (insR.t 3))).drew).cell? ⟨w.heap.size, j, none⟩ = A[j]? := fun j => by
      change (w.alloc _).cell? _ = _
      rw [World.cell?_alloc_new]
    have hB1 : Below B w (w.alloc (.cells A (insR.t 3))) := (Below.refl _ _).alloc hBw _
    have hB2 := below_setCells_ hBw [x] k _ hB1.drew
    have hB3 := below_setCells_ hBw (cs.drop k) (k + 1) _ hB2.drew
    have hz1 := (below_setCells_ (B := (w.alloc (.cells A (insR.t 3))).heap.size) (b := (w.alloc (.cells A (insR.t 3))).heap.size) (a := w.alloc (.cells A (insR.t 3))) (Nat.le_refl _) [] 0 _ (Below.refl _ _)).size
    refine ⟨hB3, w.heap.size, gc, rfl, hBw, ?_, hgc, ?_, ?_⟩
    · have k1 := (below_setCells_ (B := 0) (b := w.heap.size) (Nat.zero_le _) [x] k _ ((Below.refl 0 (w.alloc (.cells A (insR.t 3)))).drew)).size
      have k2 := (below_setCells_ (B := 0) (b := w.heap.size) (Nat.zero_le _) (cs.drop k) (k + 1) _ ((Below.refl 0 ((w.alloc (.cells A (insR.t 3))).drew.setCells w.heap.size k [x])).drew)).size
      have k3 : (w.alloc (.cells A (insR.t 3))).heap.size = w.heap.size + 1 := by simp
      exact Nat.lt_of_lt_of_le (by omega) (Nat.le_trans k1 k2)
    · intro j v hj
      have hs : ∀ i, i < ([x] : List Value).length → ((w.alloc (.cells A (insR.t 3))).drew.cell? ⟨w.heap.size, k + i, none⟩).isSome = true := fun i hi => by
        rw [hA]; simp at hi ⊢; omega
      have hs2 : ∀ i, i < (cs.drop k).length → (((w.alloc (.cells A (insR.t 3))).drew.setCells w.heap.size k [x]).drew.cell? ⟨w.heap.size, (k + 1) + i, none⟩).isSome = true := fun i hi => by
        change (((w.alloc (.cells A (insR.t 3))).drew.setCells w.heap.size k [x]).cell? _).isSome = true
        rw [World.cell?_setCells_out _ _ _ _ _ (fun _ _ => by simp <;> omega), hA]
        simp; omega
      rcases two_at (by omega) hj with ⟨h1, h2⟩ | ⟨h1, h2⟩ | ⟨h1, h2, h3⟩
      · rw [World.cell?_setCells_out _ _ _ _ _ (fun _ _ => by simp <;> omega)]
        change ((w.alloc (.cells A (insR.t 3))).drew.setCells w.heap.size k [x]).cell? _ = _
        rw [World.cell?_setCells_out _ _ _ _ _ (fun _ _ => by simp <;> omega), hA]
        exact hlow j v h1 h2
      · subst h1 h2
        rw [World.cell?_setCells_out _ _ _ _ _ (fun _ _ => by simp)]
        have := World.cell?_setCells_in w.heap.size _ _ _ hs 0 (by simp)
        simpa using this
      · have := World.cell?_setCells_in w.heap.size (cs.drop k) (k + 1) _ hs2 (j - (k + 1)) (by omega)
        rw [show (k + 1) + (j - (k + 1)) = j by omega] at this
        rw [this]
        have e : (cs.drop k)[j - (k + 1)]? = some v := by rw [List.getElem?_drop, show k + (j - (k + 1)) = j - 1 by omega]; exact h3
        rw [List.getElem?_eq_getElem (by omega)] at e
        exact e
    · intro j
      rw [World.frozen?_setCells]
      change (((w.alloc (.cells A (insR.t 3))).drew.setCells w.heap.size k [x])).frozen? _ = false
      rw [World.frozen?_setCells]
      change (w.alloc (.cells A (insR.t 3))).frozen? _ = false
      exact World.frozen?_alloc_new _ _ _ _
  · refine (Any2.slices_Insert_int_shift insL g 0 n cap k vb 0 1 1 cs [x] w hk (by omega) (by omega) (by unfold maxLen at hcm; omega) hne hcl rfl hc0
      (fun j hj => by rw [hcg, Nat.zero_add]; simp; omega) (fun j _ => by simp [World.frozen?, hg]) hv0 h1c (by intro v hv'; simp at hv'; subst hv'; exact hx)
      3 3 1 cap (by simp [World.shape?, hv]) (by simp [World.shape?, hg, hcs]) (by omega) (by simp [World.frozen?, hv]) (by simp [World.frozen?, hv])).mono ?_
    rintro e w' ⟨rfl, rfl⟩
    refine ⟨below_setCells_ hB _ _ _ (below_setCells_ hB _ _ _ (Below.refl _ _).drew), g, cap, rfl, hB, ?_, by omega, ?_, ?_⟩
    · have h1 := (below_setCells_ hB [x] (0 + k) _ (below_setCells_ hB (cs.drop k) (0 + (k + 1)) _ (Below.refl B w).drew)).size
      omega
    · intro j v hj
      have hs : ∀ i, i < (cs.drop k).length → (w.drew.cell? ⟨g, (0 + (k + 1)) + i, none⟩).isSome = true := fun i hi => by
        change (w.cell? _).isSome = true
        rw [hcg]; simp; omega
      have hs2 : ∀ i, i < ([x] : List Value).length → ((w.drew.setCells g (0 + (k + 1)) (cs.drop k)).cell? ⟨g, (0 + k) + i, none⟩).isSome = true := fun i hi => by
        simp at hi
        subst hi
        rw [World.cell?_setCells_out _ _ _ _ _ (fun _ _ => by simp)]
        change (w.cell? _).isSome = true
        rw [hcg]; simp; omega
      rcases two_at (by omega) hj with ⟨h1, h2⟩ | ⟨h1, h2⟩ | ⟨h1, h2, h3⟩
      · rw [World.cell?_setCells_out _ _ _ _ _ (fun _ _ => by simp <;> omega), World.cell?_setCells_out _ _ _ _ _ (fun _ _ => by simp <;> omega)]
        have := hc0 j v h2
        rw [Nat.zero_add] at this
        exact this
      · subst h1 h2
        have := World.cell?_setCells_in g _ _ _ hs2 0 (by simp)
        simpa using this
      · rw [World.cell?_setCells_out _ _ _ _ _ (fun _ _ => by simp <;> omega)]
        have := World.cell?_setCells_in g (cs.drop k) (0 + (k + 1)) w.drew hs (j - (k + 1)) (by omega)
        rw [show 0 + (k + 1) + (j - (k + 1)) = j by omega] at this
        rw [this]
        have e : (cs.drop k)[j - (k + 1)]? = some v := by rw [List.getElem?_drop, show k + (j - (k + 1)) = j - 1 by omega]; exact h3
        rw [List.getElem?_eq_getElem (by omega)] at e
        exact e
    · intro j
      rw [World.frozen?_setCells, World.frozen?_setCells]
      change w.frozen? _ = false
      simp [World.frozen?, hg]
end Go.Proofs.YtnhimgabcljahaaGreatDoor
