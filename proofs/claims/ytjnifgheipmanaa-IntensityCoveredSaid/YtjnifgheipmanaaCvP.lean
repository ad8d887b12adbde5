/- Greatest sums: no window has more, one has as much, and longer windows have no less; the durations of all lengths. -/
import Derived.Test.YtjnifgheipmanaaRcOf
namespace Go.Proofs.Ytjnifgheipmanaa
open Go.RowKit

theorem gm_ge (l : List Int) {k : Nat} : ∀ {i j : Nat}, k ≤ j → 1 ≤ j → j ≤ i → sk l k j ≤ gm l k i
  | 0, j, _, h0, h => by omega
  | i + 1, j, hk, h0, h => by
    show _ ≤ (if k ≤ i + 1 ∧ gm l k i < sk l k (i + 1) then sk l k (i + 1) else gm l k i)
    rcases Nat.lt_or_ge j (i + 1) with h1 | h1
    · have := gm_ge l (k := k) (i := i) hk h0 (by omega)
      split <;> omega
    · have e : j = i + 1 := by omega
      subst e
      split
      · exact Int.le_refl _
      · rename_i h2
        have : ¬ gm l k i < sk l k (i + 1) := fun h3 => h2 ⟨hk, h3⟩
        omega
theorem gm_att (l : List Int) {k : Nat} : ∀ {i : Nat}, 1 ≤ k → k ≤ i → ∃ j, k ≤ j ∧ j ≤ i ∧ gm l k i = sk l k j
  | 0, h, h' => by omega
  | i + 1, h, h' => by
    show ∃ j, k ≤ j ∧ j ≤ i + 1 ∧ (if k ≤ i + 1 ∧ gm l k i < sk l k (i + 1) then sk l k (i + 1) else gm l k i) = sk l k j
    by_cases c : k ≤ i + 1 ∧ gm l k i < sk l k (i + 1)
    · exact ⟨i + 1, h', Nat.le_refl _, by rw [if_pos c]⟩
    · rw [if_neg c]
      rcases Nat.lt_or_ge i k with h1 | h1
      · have e : i + 1 = k := by omega
        exfalso
        apply c
        refine ⟨h', ?_⟩
        rw [gm_lt l k i h1]
        have := (sk_bd l k (i + 1)).1
        omega
      · obtain ⟨j, a, b, e⟩ := gm_att l (i := i) h h1
        exact ⟨j, a, by omega, e⟩
theorem gm_len (l : List Int) {k n : Nat} (h : 1 ≤ k) (hn : k + 1 ≤ n) : gm l k n ≤ gm l (k + 1) n := by
  obtain ⟨j, a, b, e⟩ := gm_att l h (show k ≤ n by omega)
  rw [e]
  rcases Nat.lt_or_ge k j with h1 | h1
  · refine Int.le_trans ?_ (gm_ge l (k := k + 1) (j := j) (by omega) (by omega) b)
    unfold sk
    have := ps_mono l (show j - (k + 1) ≤ j - k by omega)
    omega
  · have ej : j = k := by omega
    subst ej
    refine Int.le_trans ?_ (gm_ge l (k := j + 1) (j := j + 1) (by omega) (by omega) hn)
    unfold sk
    rw [Nat.sub_self, Nat.sub_self]
    have := ps_mono l (Nat.le_succ j)
    have e2 : ps l (j + 1) = ps l j.succ := rfl
    omega
/-- a window of k depths from f on -/
theorem sk_win (l : List Int) (k f : Nat) : sk l k (f + k) = ps l (f + k) - ps l f := by unfold sk; rw [Nat.add_sub_cancel]
def fndB (l : List Int) (k : Nat) (g : Int) (f : Nat) : Bool := (List.range f).any fun j => decide (ps l (j + k) - ps l j = g)
theorem fndB_zero (l : List Int) (k : Nat) (g : Int) : fndB l k g 0 = false := by simp [fndB]
theorem fndB_succ (l : List Int) (k : Nat) (g : Int) (f : Nat) : fndB l k g (f + 1) = (fndB l k g f || decide (ps l (f + k) - ps l f = g)) := by
  unfold fndB; rw [List.range_succ, List.any_append]; simp
theorem fndB_end (l : List Int) {k n f : Nat} (h : 1 ≤ k) (hn : k ≤ n) (hf : n < f + k) : fndB l k (gm l k n) f = true := by
  obtain ⟨j, a, b, e⟩ := gm_att l h hn
  unfold fndB
  rw [List.any_eq_true]
  refine ⟨j - k, List.mem_range.2 (by omega), decide_eq_true ?_⟩
  have := sk_win l k (j - k)
  rw [Nat.sub_add_cancel a] at this
  rw [e, Nat.sub_add_cancel a, this]
theorem win_le (l : List Int) {k n f : Nat} (h : 1 ≤ k) (hf : f + k ≤ n) : ps l (f + k) - ps l f ≤ gm l k n := by
  rw [← sk_win]; exact gm_ge l (by omega) (by omega) hf
/-- the durations of all lengths -/
def dsL (st : Int) (n : Nat) : List Int := (List.range n).map fun (i : Nat) => st * ((i : Int) + 1)
theorem dsL_length (st : Int) (n : Nat) : (dsL st n).length = n := by simp [dsL]
theorem dsL_at (st : Int) (n : Nat) (i : Nat) (hi : i < (dsL st n).length) : (dsL st n)[i] = st * ((i : Int) + 1) := by simp [dsL]
theorem dsL_succ (st : Int) (k : Nat) : dsL st (k + 1) = dsL st k ++ [st * ((k : Int) + 1)] := by unfold dsL; rw [List.range_succ, List.map_append]; rfl
theorem lasts_dsL {s : Ser} (h : 1 ≤ s.st) {i : Nat} (hi : i < s.ds.length) : lastB s (s.st * ((i : Int) + 1)) = true ∧ kkS s (s.st * ((i : Int) + 1)) = i + 1 := by
  have e : s.st * ((i : Int) + 1) / s.st = (i : Int) + 1 := Int.mul_ediv_cancel_left _ (by omega)
  have m : s.st * ((i : Int) + 1) % s.st = 0 := Int.mul_emod_right _ _
  refine ⟨decide_eq_true ⟨Int.mul_pos (by omega) (by omega), m, by rw [e]; omega⟩, ?_⟩
  unfold kkS; rw [e]; omega
theorem ofE_dsL {s : Ser} (h : 1 ≤ s.st) (hn : s.ds.length ≤ 100) : ofE s (dsL s.st s.ds.length) = 0 := by
  unfold ofE
  rw [dsL_length, if_neg (by omega), if_pos]
  rw [List.all_eq_true]
  intro x hx
  obtain ⟨i, hi, rfl⟩ := List.mem_iff_getElem.1 hx
  rw [dsL_at]
  exact (lasts_dsL h (by rw [dsL_length] at hi; exact hi)).1
def gmL (s : Ser) : List Int := (List.range s.ds.length).map fun i => gm s.ds (i + 1) s.ds.length
theorem gmL_length (s : Ser) : (gmL s).length = s.ds.length := by simp [gmL]
theorem gmL_at (s : Ser) (i : Nat) (hi : i < (gmL s).length) : (gmL s)[i] = gm s.ds (i + 1) s.ds.length := by simp [gmL]
theorem ofL_dsL {s : Ser} (h : 1 ≤ s.st) (hn : s.ds.length ≤ 100) : ofL s (dsL s.st s.ds.length) = gmL s := by
  unfold ofL
  rw [if_pos (ofE_dsL h hn)]
  unfold dsL gmL
  rw [List.map_map]
  refine List.map_congr_left fun i hi => ?_
  show gm s.ds (kkS s (s.st * ((i : Int) + 1))) s.ds.length = _
  rw [(lasts_dsL h (List.mem_range.1 hi)).2]
end Go.Proofs.Ytjnifgheipmanaa
