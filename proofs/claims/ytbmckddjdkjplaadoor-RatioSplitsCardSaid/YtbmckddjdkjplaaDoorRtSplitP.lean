/- Dividing a weight divides its share, said of lists of integers. -/
import Derived.Test.YtbmckddjdkjplaaDoorRtAddsP
namespace Go.Proofs.YtbmckddjdkjplaaDoor

/-- a weight m between p and q, and the same with m divided -/
theorem pre_low (p : List Int) (r : List Int) {j : Nat} (h : j ≤ p.length) : preS (p ++ r) j = (p.take j).sum := by unfold preS; rw [List.take_append_of_le_length h]
theorem pre_at (p : List Int) (c : Int) (r : List Int) : preS (p ++ c :: r) (p.length + 1) = p.sum + c := by
  unfold preS
  rw [List.take_append, List.take_of_length_le (by omega)]
  simp
theorem pre_high1 (p : List Int) (m : Int) (q : List Int) (i : Nat) : preS (p ++ m :: q) (p.length + 1 + i) = p.sum + m + (q.take i).sum := by
  unfold preS
  rw [List.take_append, show p.length + 1 + i - p.length = i + 1 by omega, List.take_of_length_le (by omega)]
  simp
  omega
theorem pre_high2 (p : List Int) (c m : Int) (q : List Int) (i : Nat) : preS (p ++ c :: (m - c) :: q) (p.length + 2 + i) = p.sum + m + (q.take i).sum := by
  unfold preS
  rw [List.take_append, show p.length + 2 + i - p.length = i + 1 + 1 by omega, List.take_of_length_le (by omega)]
  simp
  omega
theorem sum_two (p : List Int) (c m : Int) (q : List Int) : (p ++ c :: (m - c) :: q).sum = (p ++ m :: q).sum := by
  simp
  omega
theorem shK_list {T S : Int} {l l' : List Int} {n n' i i' : Nat} (hn : n - i = n' - i') (h : ∀ j, i + j < n → qK T S l (i + j) = qK T S l' (i' + j) ∧ qK T S l (i + j + 1) = qK T S l' (i' + j + 1)) :
    (shK T S l n).drop i = (shK T S l' n').drop i' := by
  apply List.ext_getElem?
  intro j
  rw [List.getElem?_drop, List.getElem?_drop]
  by_cases hj : i + j < n
  · rw [shK_at T S l n _ hj, shK_at T S l' n' _ (by omega), (h j hj).1, (h j hj).2]
  · rw [List.getElem?_eq_none (by rw [shK_length]; omega), List.getElem?_eq_none (by rw [shK_length]; omega)]
theorem shK_take {T S : Int} {l l' : List Int} {n n' k : Nat} (hn : k ≤ n) (hn' : k ≤ n') (h : ∀ j, j ≤ k → qK T S l j = qK T S l' j) : (shK T S l n).take k = (shK T S l' n').take k := by
  apply List.ext_getElem?
  intro j
  rw [List.getElem?_take, List.getElem?_take]
  by_cases hj : j < k
  · rw [if_pos hj, if_pos hj, shK_at T S l n _ (by omega), shK_at T S l' n' _ (by omega), h j (by omega), h (j + 1) (by omega)]
  · rw [if_neg hj, if_neg hj]
/-- the shares of the divided weights -/
theorem split_facts (T S : Int) (p : List Int) (c m : Int) (q : List Int) :
    (shK T S (p ++ m :: q) (p.length + 1 + q.length)).take p.length = (shK T S (p ++ c :: (m - c) :: q) (p.length + 2 + q.length)).take p.length ∧
    (shK T S (p ++ m :: q) (p.length + 1 + q.length)).drop (p.length + 1) = (shK T S (p ++ c :: (m - c) :: q) (p.length + 2 + q.length)).drop (p.length + 2) ∧
    qK T S (p ++ c :: (m - c) :: q) p.length = qK T S (p ++ m :: q) p.length ∧ qK T S (p ++ c :: (m - c) :: q) (p.length + 2) = qK T S (p ++ m :: q) (p.length + 1) := by
  have lo : ∀ j, j ≤ p.length → qK T S (p ++ m :: q) j = qK T S (p ++ c :: (m - c) :: q) j := fun j hj => by unfold qK; rw [pre_low p _ hj, pre_low p _ hj]
  have hi : ∀ i, qK T S (p ++ m :: q) (p.length + 1 + i) = qK T S (p ++ c :: (m - c) :: q) (p.length + 2 + i) := fun i => by unfold qK; rw [pre_high1, pre_high2]
  refine ⟨shK_take (by omega) (by omega) lo, shK_list (by omega) (fun j _ => ⟨hi j, hi (j + 1)⟩), (lo _ (Nat.le_refl _)).symm, (hi 0).symm⟩
theorem qK_le {T M S : Int} {l : List Int} (h : T ≤ M) (hS : 0 < S) (hw : wOk l) (k : Nat) (hk : k ≤ l.length) : qK T S l k ≤ qK M S l k :=
  Int.ediv_le_ediv hS (Int.mul_le_mul_of_nonneg_right h (preS_bd hw k hk).1)
theorem wOk_two {p : List Int} {c m : Int} {q : List Int} (h : wOk (p ++ m :: q)) (hc : 0 ≤ c) (hcm : c ≤ m) : wOk (p ++ c :: (m - c) :: q) := by
  have hb := wB_iff.2 h
  refine wB_iff.1 ?_
  simp only [wB, List.all_append, List.all_cons, Bool.and_eq_true, decide_eq_true_eq] at hb ⊢
  exact ⟨hb.1, by omega, by omega, hb.2.2⟩
theorem shE_gen {l : List Int} {T : Nat} (hl : l.length ≤ 201) (hT : T ≤ 1099511627776) (hw : wOk l) (hs : l.sum ≤ 1152921504606846976) : shE (T : Int) l = if l.sum = 0 then 16 else 0 := by
  unfold shE
  rw [if_neg (by omega), if_neg (by omega), if_neg (by rw [wB_iff.2 hw]; simp), if_neg (by omega)]
/-- a list parted at its k-th place -/
theorem parted (l : List Int) (k : Nat) (h : k < l.length) : l = l.take k ++ l[k] :: l.drop (k + 1) ∧ (l.take k).length = k ∧ (l.drop (k + 1)).length = l.length - (k + 1) := by
  refine ⟨?_, by rw [List.length_take]; omega, by rw [List.length_drop]⟩
  rw [List.getElem_cons_drop, List.take_append_drop]
end Go.Proofs.YtbmckddjdkjplaaDoor
