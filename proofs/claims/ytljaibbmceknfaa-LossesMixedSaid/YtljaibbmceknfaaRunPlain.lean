/- A run of steps, said of lists: the store at the end, and what runs off in each step. -/
import Derived.Test.YtljaibbmceknfaaLossLaw
namespace Go.Proofs.Ytljaibbmceknfaa
open Go.RowKit

def runS (c : Cls) (t : Int) : Sto → List Int → Sto
  | s, [] => s
  | s, d :: ds => runS c t (stepS c s d t) ds
def runL (c : Cls) (t : Int) : Sto → List Int → List Int
  | _, [] => []
  | s, d :: ds => runoff c s d :: runL c t (stepS c s d t) ds
theorem runS_snoc (c : Cls) (t : Int) : ∀ (l : List Int) (s : Sto) (d : Int), runS c t s (l ++ [d]) = stepS c (runS c t s l) d t
  | [], _, _ => rfl
  | _ :: l, s, d => runS_snoc c t l (stepS c s _ t) d
theorem runL_snoc (c : Cls) (t : Int) : ∀ (l : List Int) (s : Sto) (d : Int), runL c t s (l ++ [d]) = runL c t s l ++ [runoff c (runS c t s l) d]
  | [], _, _ => rfl
  | x :: l, s, d => congrArg (runoff c s x :: ·) (runL_snoc c t l (stepS c s x t) d)
theorem runL_length (c : Cls) (t : Int) : ∀ (l : List Int) (s : Sto), (runL c t s l).length = l.length
  | [], _ => rfl
  | x :: l, s => by simp [runL, runL_length c t l]
theorem take_snocI (l : List Int) (k : Nat) (h : k < l.length) : l.take (k + 1) = l.take k ++ [l[k]] := by rw [List.take_succ_eq_append_getElem h]
/-- every depth is in range -/
def depB (l : List Int) : Bool := !(l.any fun d => !(inB d 4194304))
theorem depB_at {l : List Int} (h : depB l = true) (k : Nat) (hk : k < l.length) : 0 ≤ l[k] ∧ l[k] ≤ 4194304 := by
  simp only [depB, Bool.not_eq_true', List.any_eq_false] at h
  have := h l[k] (List.getElem_mem hk)
  exact inB_iff.1 (by simpa using this)
theorem run_holds {c : Cls} {t : Int} (hr : RightP c) (ht : 0 ≤ t) (ht' : t ≤ 86400) : ∀ (l : List Int) (s : Sto), HoldsP c s → (∀ x ∈ l, (0 : Int) ≤ x) → HoldsP c (runS c t s l)
  | [], _, h, _ => h
  | x :: l, s, h, hx => run_holds hr ht ht' l _ (step_holds hr h (hx x (by simp)) ht ht') (fun y hy => hx y (by simp [hy]))
theorem depB_all {l : List Int} (h : depB l = true) : ∀ x ∈ l, 0 ≤ x ∧ x ≤ 4194304 := by
  intro x hx
  obtain ⟨i, hi, rfl⟩ := List.mem_iff_getElem.1 hx
  exact depB_at h i hi
theorem run_take {c : Cls} {t : Int} {l : List Int} {s : Sto} (hr : RightP c) (h : HoldsP c s) (ht : 0 ≤ t) (ht' : t ≤ 86400) (hd : depB l = true) (k : Nat) : HoldsP c (runS c t s (l.take k)) :=
  run_holds hr ht ht' _ _ h (fun x hx => (depB_all hd x (List.mem_of_mem_take hx)).1)
theorem runL_bd {c : Cls} {t : Int} (hr : RightP c) (ht : 0 ≤ t) (ht' : t ≤ 86400) : ∀ (l : List Int) (s : Sto), HoldsP c s → (∀ x ∈ l, 0 ≤ x ∧ x ≤ 4194304) → ∀ y ∈ runL c t s l, 0 ≤ y ∧ y ≤ 4194304000
  | [], _, _, _, y, hy => by cases hy
  | x :: l, s, h, hx, y, hy => by
    have hx0 := hx x (by simp)
    rcases List.mem_cons.1 hy with rfl | hy
    · have := runoff_bd hr h hx0.1 hx0.2
      omega
    · exact runL_bd hr ht ht' l _ (step_holds hr h hx0.1 ht ht') (fun z hz => hx z (by simp [hz])) y hy
end Go.Proofs.Ytljaibbmceknfaa
