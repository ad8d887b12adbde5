/- A step of a mixture, said of lists. -/
import Derived.Test.YtljaibbmceknfaaStoSl
import Derived.Test.YtljaibbmceknfaaLossSteps
namespace Go.Proofs.Ytljaibbmceknfaa
open Go.RowKit

def mixS (d t : Int) : List Cls → List Sto → List Sto
  | c :: l, s :: ss => stepS c s d t :: mixS d t l ss
  | _, _ => []
def mixV (d : Int) : List Cls → List Int → List Sto → Int
  | c :: l, a :: ar, s :: ss => a * runoff c s d + mixV d l ar ss
  | _, _, _ => 0
theorem mixS_length (d t : Int) : ∀ (l : List Cls) (ss : List Sto), ss.length = l.length → (mixS d t l ss).length = l.length
  | [], [], _ => rfl
  | c :: l, s :: ss, h => by simp only [mixS, List.length_cons, mixS_length d t l ss (by simpa using h)]
  | [], s :: ss, h => by simp at h
  | c :: l, [], h => by simp at h
theorem mixS_take (d t : Int) : ∀ (l : List Cls) (ss : List Sto) (k : Nat) (h : k < l.length) (h' : k < ss.length), mixS d t (l.take (k + 1)) (ss.take (k + 1)) = mixS d t (l.take k) (ss.take k) ++ [stepS l[k] ss[k] d t]
  | [], _, k, h, _ => by simp at h
  | c :: l, [], k, _, h' => by simp at h'
  | c :: l, s :: ss, 0, _, _ => by simp [mixS]
  | c :: l, s :: ss, k + 1, h, h' => by
    have i := mixS_take d t l ss k (by simpa using h) (by simpa using h')
    simp only [List.take_succ_cons, mixS, i, List.cons_append, List.getElem_cons_succ]
theorem mixV_take (d : Int) : ∀ (l : List Cls) (ar : List Int) (ss : List Sto) (k : Nat) (h : k < l.length) (h1 : k < ar.length) (h' : k < ss.length), mixV d (l.take (k + 1)) (ar.take (k + 1)) (ss.take (k + 1)) = mixV d (l.take k) (ar.take k) (ss.take k) + ar[k] * runoff l[k] ss[k] d
  | [], _, _, k, h, _, _ => by simp at h
  | c :: l, [], _, k, _, h, _ => by simp at h
  | c :: l, a :: ar, [], k, _, _, h' => by simp at h'
  | c :: l, a :: ar, s :: ss, 0, _, _, _ => by simp [mixV]
  | c :: l, a :: ar, s :: ss, k + 1, h, h1, h' => by
    have i := mixV_take d l ar ss k (by simpa using h) (by simpa using h1) (by simpa using h')
    simp only [List.take_succ_cons, mixV, i, List.getElem_cons_succ]
    omega
def stoOkB (l : List Cls) (ss : List Sto) : Bool := (l.zip ss).all fun p => holdsB p.1 p.2
def areaB (ar : List Int) : Bool := ar.all fun a => inB a 1073741824
theorem stoOk_at {l : List Cls} {ss : List Sto} (h : stoOkB l ss = true) (k : Nat) (h1 : k < l.length) (h2 : k < ss.length) : holdsB l[k] ss[k] = true := by
  have := (List.all_eq_true.1 h) (l[k], ss[k]) (by rw [List.mem_iff_getElem]; exact ⟨k, by simp; omega, by simp⟩)
  exact this
theorem stoOk_not {l : List Cls} {ss : List Sto} {k : Nat} (h1 : k < l.length) (h2 : k < ss.length) (h : holdsB l[k] ss[k] = false) : stoOkB l ss = false := by
  cases e : stoOkB l ss
  · rfl
  · rw [stoOk_at e k h1 h2] at h; cases h
theorem stoOk_yes {l : List Cls} {ss : List Sto} (h : ∀ k (h1 : k < l.length) (h2 : k < ss.length), holdsB l[k] ss[k] = true) : stoOkB l ss = true := by
  refine List.all_eq_true.2 fun p hp => ?_
  obtain ⟨k, hk, rfl⟩ := List.mem_iff_getElem.1 hp
  simp only [List.length_zip] at hk
  simpa using h k (by omega) (by omega)
theorem area_at {ar : List Int} (h : areaB ar = true) (k : Nat) (hk : k < ar.length) : 0 ≤ ar[k] ∧ ar[k] ≤ 1073741824 := inB_iff.1 ((List.all_eq_true.1 h) ar[k] (List.getElem_mem hk))
theorem area_not {ar : List Int} {k : Nat} (hk : k < ar.length) (h : inB ar[k] 1073741824 = false) : areaB ar = false := by
  cases e : areaB ar
  · rfl
  · have := (List.all_eq_true.1 e) ar[k] (List.getElem_mem hk)
    rw [this] at h; cases h
theorem area_yes {ar : List Int} (h : ∀ k (hk : k < ar.length), inB ar[k] 1073741824 = true) : areaB ar = true := by
  refine List.all_eq_true.2 fun p hp => ?_
  obtain ⟨k, hk, rfl⟩ := List.mem_iff_getElem.1 hp
  exact h k hk
theorem sum_take (ar : List Int) (k : Nat) (hk : k < ar.length) : (ar.take (k + 1)).sum = (ar.take k).sum + ar[k] := by
  rw [List.take_succ_eq_append_getElem hk, List.sum_append]; simp
theorem sum_bd {ar : List Int} (h : ∀ k (hk : k < ar.length), 0 ≤ ar[k] ∧ ar[k] ≤ 1073741824) : ∀ k, k ≤ ar.length → 0 ≤ (ar.take k).sum ∧ (ar.take k).sum ≤ k * 1073741824
  | 0, _ => by simp
  | k + 1, hk => by
    have i := sum_bd h k (by omega)
    have j := h k (by omega)
    rw [sum_take ar k (by omega)]
    omega
def mixE (l : List Cls) (ar : List Int) (ss : List Sto) (d t : Int) : Int :=
  if validB l = true then (if ar.length = l.length ∧ ss.length = l.length then (if stoOkB l ss = true then (if areaB ar = true ∧ inB d 4194304 = true ∧ lenB t = true then (if ar.sum ≤ 1073741824 then 0 else 5) else 2) else 1) else 3) else 1
end Go.Proofs.Ytljaibbmceknfaa
