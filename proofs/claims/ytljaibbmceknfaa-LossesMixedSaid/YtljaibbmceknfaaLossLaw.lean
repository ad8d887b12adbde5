/- Plain laws of wetting and infiltration: what is fuller stays fuller and runs off no less. -/
import Derived.Test.YtljaibbmceknfaaLossPlain
namespace Go.Proofs.Ytljaibbmceknfaa
open Go.RowKit

theorem ceil_add {n k d : Int} (hd : 0 < d) : (n + k * d + d - 1) / d = (n + d - 1) / d + k := by
  rw [show n + k * d + d - 1 = (n + d - 1) + k * d by omega, Int.add_mul_ediv_right _ _ (by omega)]
theorem lessI_mono {h h' k d : Int} (h0 : 0 ≤ h) (hh : h ≤ h') (_hk : 0 ≤ k) (hd : 0 < d) : lessI h (h * k) d ≤ lessI h' (h' * k) d := by
  by_cases c : k ≤ d
  · have e1 : h' * k = h * k + (h' - h) * k := by rw [← Int.add_mul]; congr 1; omega
    have e2 : (h' - h) * k ≤ (h' - h) * d := Int.mul_le_mul_of_nonneg_left c (by omega)
    have e3 : (h' * k + d - 1) / d ≤ (h * k + (h' - h) * d + d - 1) / d := Int.ediv_le_ediv hd (by omega)
    rw [ceil_add hd] at e3
    unfold lessI
    omega
  · have e2 : h * d ≤ h * k := Int.mul_le_mul_of_nonneg_left (by omega) h0
    have e3 : (0 + h * d + d - 1) / d ≤ (h * k + d - 1) / d := Int.ediv_le_ediv hd (by omega)
    rw [ceil_add hd] at e3
    have e4 : 0 ≤ (0 + d - 1) / d := Int.ediv_nonneg (by omega) (by omega)
    unfold lessI
    omega
/-- the numbers of a step: what comes to the ground, what stays on it, the filled store -/
theorem nums (c : Cls) (s : Sto) (d : Int) (h : HoldsP c s) (hd : 0 ≤ d) :
    d - wetBy c s d = max 0 (d - (c.we - s.wt)) ∧ d - wetBy c s d - heldBy c s d = max 0 (d - wetBy c s d - (c.ro - s.he)) ∧
      s.wt + wetBy c s d = min (s.wt + d) c.we ∧ s.he + heldBy c s d = min (s.he + (d - wetBy c s d)) c.ro := by
  have h1 := wetBy_bd h hd
  have e1 : wetBy c s d = min d (c.we - s.wt) := rfl
  have e2 : heldBy c s d = min (d - wetBy c s d) (c.ro - s.he) := rfl
  omega
theorem mix_mono {a b a' b' k : Int} (ha : a ≤ a') (hb : b ≤ b') (hk : 0 ≤ k) (hk' : k ≤ 1000) : a * k + b * (1000 - k) ≤ a' * k + b' * (1000 - k) := by
  have h1 : a * k ≤ a' * k := Int.mul_le_mul_of_nonneg_right ha hk
  have h2 : b * (1000 - k) ≤ b' * (1000 - k) := Int.mul_le_mul_of_nonneg_right hb (by omega)
  omega
theorem run_fuller {c : Cls} {s t : Sto} {d : Int} (hr : RightP c) (hs : HoldsP c s) (ht : HoldsP c t) (hd : 0 ≤ d) (h1 : s.wt ≤ t.wt) (h2 : s.he ≤ t.he) : runoff c s d ≤ runoff c t d := by
  have a := nums c s d hs hd
  have b := nums c t d ht hd
  unfold RightP at hr
  exact mix_mono (by omega) (by omega) (by omega) (by omega)
theorem run_more {c : Cls} {s : Sto} {d d' : Int} (hr : RightP c) (hs : HoldsP c s) (hd : 0 ≤ d) (h : d ≤ d') : runoff c s d ≤ runoff c s d' := by
  have a := nums c s d hs hd
  have b := nums c s d' hs (by omega)
  unfold RightP at hr
  exact mix_mono (by omega) (by omega) (by omega) (by omega)
theorem run_sealed {c : Cls} {s : Sto} {d k : Int} (hs : HoldsP c s) (hd : 0 ≤ d) (hk : c.se ≤ k) : runoff c s d ≤ runoff { c with se := k } s d := by
  have h2 := heldBy_bd hs hd
  show (d - wetBy c s d) * c.se + (d - wetBy c s d - heldBy c s d) * (1000 - c.se) ≤ (d - wetBy c s d) * k + (d - wetBy c s d - heldBy c s d) * (1000 - k)
  generalize d - wetBy c s d = x at *
  generalize heldBy c s d = y at *
  have e : ∀ z : Int, x * z + (x - y) * (1000 - z) = 1000 * (x - y) + y * z := by
    intro z
    rw [Int.sub_mul, Int.mul_sub, Int.mul_sub]
    omega
  rw [e, e]
  have : y * c.se ≤ y * k := Int.mul_le_mul_of_nonneg_left hk (by omega)
  omega
theorem step_fuller {c : Cls} {s t : Sto} {d n : Int} (hr : RightP c) (hs : HoldsP c s) (ht : HoldsP c t) (hd : 0 ≤ d) (hn : 0 ≤ n) (h1 : s.wt ≤ t.wt) (h2 : s.he ≤ t.he) :
    (stepS c s d n).wt ≤ (stepS c t d n).wt ∧ (stepS c s d n).he ≤ (stepS c t d n).he := by
  have a := nums c s d hs hd
  have b := nums c t d ht hd
  have a' := heldBy_bd hs hd
  unfold RightP at hr
  unfold HoldsP at hs ht
  refine ⟨?_, ?_⟩
  · simp only [stepS, stepWt]
    split
    · unfold lessI; omega
    · omega
  · simp only [stepS, stepHe]
    rw [Int.mul_assoc, Int.mul_assoc]
    exact lessI_mono (by omega) (by omega) (Int.mul_nonneg (by omega) hn) (by omega)
end Go.Proofs.Ytljaibbmceknfaa
