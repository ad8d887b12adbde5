/- The parts of depths: sums, elements, and the chunks that give the depths back. Plain lists. -/
import Derived.Test.YtkbocphpnmpaeaaGgFin
import Derived.Test.YtkbocphpnmpaeaaGgSame
namespace Go.Proofs.Ytkbocphpnmpaeaa
open Go.RowKit

/-- the first j shares of d by k ones -/
def shq (d : Int) (k j : Nat) : Int := d * (j : Int) / (k : Int)
theorem preS_ones {k j : Nat} (h : j ≤ k) : preS (List.replicate k 1) j = (j : Int) := by
  unfold preS
  rw [List.take_replicate, Nat.min_eq_left h]
  simp [List.sum_replicate_int]
theorem shL_ones_at {d : Int} {k j : Nat} (h1 : 1 ≤ k) (h2 : k ≤ 10000) (h3 : 0 ≤ d) (h4 : d ≤ 4194304) (hj : j < k) : (shL d (List.replicate k 1)).getD j 0 = shq d k (j + 1) - shq d k j := by
  have hs : (List.replicate k (1 : Int)).sum = (k : Int) := by simp [List.sum_replicate_int]
  unfold shL
  rw [if_pos (shE_ones h1 h2 h3 h4), List.length_replicate, hs, List.getD_eq_getElem?_getD, shK_at _ _ _ _ _ hj]
  unfold qK shq
  rw [preS_ones (by omega), preS_ones (by omega)]
  rfl
theorem shq_step {d : Int} {k : Nat} (h1 : 1 ≤ k) (j : Nat) : shq d k j + d / (k : Int) ≤ shq d k (j + 1) ∧ shq d k (j + 1) ≤ shq d k j + d / (k : Int) + 1 := by
  have kp : (0 : Int) < (k : Int) := by omega
  have e : d * ((j + 1 : Nat) : Int) = d * (j : Int) + d := by rw [Int.natCast_add, Int.mul_add]; simp
  unfold shq
  rw [e]
  generalize d * (j : Int) = x
  have u := Int.mul_ediv_add_emod x (k : Int)
  have u1 := Int.emod_nonneg x (show (k : Int) ≠ 0 by omega)
  have u2 := Int.emod_lt_of_pos x kp
  have v := Int.mul_ediv_add_emod (x + d) (k : Int)
  have v1 := Int.emod_nonneg (x + d) (show (k : Int) ≠ 0 by omega)
  have v2 := Int.emod_lt_of_pos (x + d) kp
  have q := Int.mul_ediv_add_emod d (k : Int)
  have q1 := Int.emod_nonneg d (show (k : Int) ≠ 0 by omega)
  have q2 := Int.emod_lt_of_pos d kp
  generalize x / (k : Int) = U at *
  generalize (x + d) / (k : Int) = V at *
  generalize d / (k : Int) = Q at *
  have a1 : (k : Int) * (U + Q) < (k : Int) * (V + 1) := by rw [Int.mul_add, Int.mul_add]; omega
  have a2 : (k : Int) * V < (k : Int) * (U + Q + 2) := by rw [Int.mul_add, Int.mul_add]; omega
  have b1 := Int.lt_of_mul_lt_mul_left a1 (by omega)
  have b2 := Int.lt_of_mul_lt_mul_left a2 (by omega)
  omega
theorem shq_zero (d : Int) (k : Nat) : shq d k 0 = 0 := by simp [shq]
theorem shq_all {d : Int} {k : Nat} (h1 : 1 ≤ k) : shq d k k = d := by
  unfold shq
  exact Int.mul_ediv_cancel d (by omega)
theorem shq_bd {d : Int} {k : Nat} (h1 : 1 ≤ k) (h3 : 0 ≤ d) {j : Nat} (hj : j ≤ k) : 0 ≤ shq d k j ∧ shq d k j ≤ d := by
  unfold shq
  refine ⟨Int.ediv_nonneg (Int.mul_nonneg h3 (by omega)) (by omega), ?_⟩
  refine Int.ediv_le_of_le_mul (by omega) ?_
  exact Int.mul_le_mul_of_nonneg_left (by omega) h3
theorem ps_shares {d : Int} {k : Nat} (h1 : 1 ≤ k) (h2 : k ≤ 10000) (h3 : 0 ≤ d) (h4 : d ≤ 4194304) : ∀ j, j ≤ k → ps (shL d (List.replicate k 1)) j = shq d k j
  | 0, _ => (shq_zero d k).symm
  | j + 1, hj => by
    have i := ps_shares h1 h2 h3 h4 j (by omega)
    have s := shq_step (d := d) h1 j
    have dk : 0 ≤ d / (k : Int) := Int.ediv_nonneg h3 (by omega)
    show ps _ j + max _ 0 = _
    rw [i, shL_ones_at h1 h2 h3 h4 (by omega)]
    omega
theorem fnD_at {d : Int} {k j : Nat} (h1 : 1 ≤ k) (h2 : k ≤ 10000) (h3 : -1 ≤ d) (h4 : d ≤ 4194304) (hj : j < k) :
    (d = -1 → (fnD k d).getD j 0 = -1) ∧ (0 ≤ d → d / (k : Int) ≤ (fnD k d).getD j 0 ∧ (fnD k d).getD j 0 ≤ d / (k : Int) + 1 ∧ 0 ≤ (fnD k d).getD j 0 ∧ (fnD k d).getD j 0 ≤ d) := by
  refine ⟨fun e => ?_, fun e => ?_⟩
  · unfold fnD; rw [if_pos e]; simp [hj]
  · unfold fnD
    rw [if_neg (by omega), shL_ones_at h1 h2 e h4 hj]
    have s := shq_step (d := d) (k := k) h1 j
    have b1 := shq_bd h1 e (show j + 1 ≤ k by omega)
    have b0 := shq_bd h1 e (show j ≤ k by omega)
    have dk : 0 ≤ d / (k : Int) := Int.ediv_nonneg e (by omega)
    omega
theorem ps_rep (k : Nat) : ∀ j, ps (List.replicate k (-1)) j = 0
  | 0 => rfl
  | j + 1 => by
    show ps _ j + max ((List.replicate k (-1)).getD j 0) 0 = 0
    rw [ps_rep k j]
    have : (List.replicate k (-1 : Int)).getD j 0 = -1 ∨ (List.replicate k (-1 : Int)).getD j 0 = 0 := by
      rcases Nat.lt_or_ge j k with h | h
      · left; simp [h]
      · right; simp [h]
    omega
theorem fnD_ps {d : Int} {k : Nat} (h1 : 1 ≤ k) (h2 : k ≤ 10000) (h3 : -1 ≤ d) (h4 : d ≤ 4194304) : ps (fnD k d) k = max d 0 := by
  unfold fnD
  split
  · rename_i e; rw [ps_rep, e]; rfl
  · rw [ps_shares h1 h2 (by omega) h4 k (Nat.le_refl _), shq_all h1]; omega
theorem fnD_ms {d : Int} {k : Nat} (h1 : 1 ≤ k) (h2 : k ≤ 10000) (h3 : -1 ≤ d) (h4 : d ≤ 4194304) : ∀ j, j ≤ k → ms (fnD k d) j = if d = -1 then (j : Int) else 0
  | 0, _ => by simp [ms]
  | j + 1, hj => by
    have i := fnD_ms h1 h2 h3 h4 j (by omega)
    have a := fnD_at h1 h2 h3 h4 (show j < k by omega)
    show ms _ j + (if (fnD k d).getD j 0 = -1 then 1 else 0) = _
    rw [i]
    by_cases e : d = -1
    · rw [if_pos e, if_pos e, if_pos (a.1 e)]; simp
    · have := a.2 (by omega)
      rw [if_neg e, if_neg e, if_neg (by omega)]; rfl
section
variable {l : List Int} {k : Nat}
theorem fnL_at (h1 : 1 ≤ k) (h2 : k ≤ 10000) (h : ∀ i, i < l.length → -1 ≤ l.getD i 0 ∧ l.getD i 0 ≤ 4194304) : ∀ m, m ≤ l.length → ∀ i j, i < m → j < k → (fnL l k m).getD (i * k + j) 0 = (fnD k (l.getD i 0)).getD j 0
  | 0, _, i, j, hi, _ => by omega
  | m + 1, hm, i, j, hi, hj => by
    have len := fnL_length h1 h2 h m (by omega)
    show (fnL l k m ++ fnD k (l.getD m 0)).getD (i * k + j) 0 = _
    rcases Nat.lt_or_ge i m with c | c
    · have b : (i + 1) * k ≤ m * k := Nat.mul_le_mul_right k c
      rw [Nat.add_mul, Nat.one_mul] at b
      rw [List.getD_eq_getElem?_getD, List.getElem?_append_left (by omega), ← List.getD_eq_getElem?_getD]
      exact fnL_at h1 h2 h m (by omega) i j c hj
    · obtain rfl : i = m := by omega
      rw [List.getD_eq_getElem?_getD, List.getElem?_append_right (by omega), len, Nat.add_sub_cancel_left, ← List.getD_eq_getElem?_getD]
/-- the first chunks' sums are the first depths' -/
theorem fnL_ps (h1 : 1 ≤ k) (h2 : k ≤ 10000) (h : ∀ i, i < l.length → -1 ≤ l.getD i 0 ∧ l.getD i 0 ≤ 4194304) {i : Nat} (hi : i < l.length) : ∀ j, j ≤ k → ps (fnL l k l.length) (i * k + j) = ps (fnL l k l.length) (i * k) + ps (fnD k (l.getD i 0)) j ∧ ms (fnL l k l.length) (i * k + j) = ms (fnL l k l.length) (i * k) + ms (fnD k (l.getD i 0)) j
  | 0, _ => by simp [ps, ms]
  | j + 1, hj => by
    obtain ⟨a, b⟩ := fnL_ps h1 h2 h hi j (by omega)
    have e := fnL_at h1 h2 h l.length (Nat.le_refl _) i j hi (by omega)
    constructor
    · show ps _ (i * k + j) + max ((fnL l k l.length).getD (i * k + j) 0) 0 = _ + (ps _ j + max ((fnD k (l.getD i 0)).getD j 0) 0)
      rw [a, e]; omega
    · show ms _ (i * k + j) + (if (fnL l k l.length).getD (i * k + j) 0 = -1 then 1 else 0) = _ + (ms _ j + (if (fnD k (l.getD i 0)).getD j 0 = -1 then 1 else 0))
      rw [b, e]; omega
theorem fnL_sums (h1 : 1 ≤ k) (h2 : k ≤ 10000) (h : ∀ i, i < l.length → -1 ≤ l.getD i 0 ∧ l.getD i 0 ≤ 4194304) : ∀ i, i ≤ l.length → ps (fnL l k l.length) (i * k) = ps l i ∧ ms (fnL l k l.length) (i * k) = (k : Int) * ms l i
  | 0, _ => by simp [ps, ms]
  | i + 1, hi => by
    obtain ⟨a, b⟩ := fnL_sums h1 h2 h i (by omega)
    have d := h i (by omega)
    obtain ⟨p, m⟩ := fnL_ps h1 h2 h (show i < l.length by omega) k (Nat.le_refl _)
    have e : (i + 1) * k = i * k + k := by rw [Nat.add_mul, Nat.one_mul]
    rw [e, p, m, a, b, fnD_ps h1 h2 d.1 d.2, fnD_ms h1 h2 d.1 d.2 k (Nat.le_refl _)]
    refine ⟨rfl, ?_⟩
    show _ = (k : Int) * (ms l i + if l.getD i 0 = -1 then 1 else 0)
    rw [Int.mul_add]
    split <;> simp
theorem fnL_part (h1 : 1 ≤ k) (h2 : k ≤ 10000) (h : ∀ i, i < l.length → -1 ≤ l.getD i 0 ∧ l.getD i 0 ≤ 4194304) {i : Nat} (hi : i < l.length) : part (fnL l k l.length) k i = fnD k (l.getD i 0) := by
  have d := h i hi
  have len := fnL_length h1 h2 h l.length (Nat.le_refl _)
  refine getD_ext ((part_length len hi).trans (fnD_length h1 h2 d.1 d.2).symm) (fun j hj => ?_)
  rw [part_length len hi] at hj
  rw [part_at hj]
  exact fnL_at h1 h2 h l.length (Nat.le_refl _) i j hi hj
theorem chV_fnD {d : Int} (h1 : 1 ≤ k) (h2 : k ≤ 10000) (h3 : -1 ≤ d) (h4 : d ≤ 4194304) : chV (fnD k d) = d := by
  have len := fnD_length h1 h2 h3 h4
  unfold chV
  rw [len, fnD_ps h1 h2 h3 h4]
  by_cases e : d = -1
  · have a := (fnD_at h1 h2 h3 h4 (show 0 < k by omega)).1 e
    have m : (fnD k d).contains (-1) = true := by
      rw [List.contains_iff_mem]
      have h0 : 0 < (fnD k d).length := by omega
      have : (fnD k d)[0] = -1 := by simpa [h0] using a
      rw [← this]; exact List.getElem_mem h0
    rw [if_pos m, e]
  · have m : (fnD k d).contains (-1) = false := by
      rw [Bool.eq_false_iff]
      intro c
      rw [List.contains_iff_mem] at c
      obtain ⟨j, hj, ej⟩ := List.mem_iff_getElem.1 c
      have b := (fnD_at h1 h2 h3 h4 (show j < k by omega)).2 (by omega)
      simp only [List.getD_eq_getElem?_getD, List.getElem?_eq_getElem hj, Option.getD_some, ej] at b
      omega
    rw [m, if_neg (by simp)]; omega
theorem fnL_back (h1 : 1 ≤ k) (h2 : k ≤ 10000) (h : ∀ i, i < l.length → -1 ≤ l.getD i 0 ∧ l.getD i 0 ≤ 4194304) : chL (fnL l k l.length) k l.length = l := by
  refine getD_ext (chL_length _ _ _) (fun i hi => ?_)
  rw [chL_length] at hi
  have d := h i hi
  have : (chL (fnL l k l.length) k l.length).getD i 0 = chV (part (fnL l k l.length) k i) := by simp [chL, hi]
  rw [this, fnL_part h1 h2 h hi, chV_fnD h1 h2 d.1 d.2]
/-- the finer record is valid -/
theorem fin_valid {s : Ser} (v : VS s) (h1 : 1 ≤ k) (h2 : k ≤ 10000) (h3 : s.st % (k : Int) = 0) (h4 : s.ds.length * k ≤ 10000) : VS ⟨s.fr, s.st / (k : Int), fnL s.ds k s.ds.length⟩ := by
  have kp : (0 : Int) < (k : Int) := by omega
  have e := Int.mul_ediv_add_emod s.st (k : Int)
  rw [h3, Int.add_zero] at e
  have len := fnL_length h1 h2 v.ok s.ds.length (Nat.le_refl _)
  have s1 := v.st
  have q1 : 0 < s.st / (k : Int) := by
    rcases Int.lt_or_le 0 (s.st / (k : Int)) with c | c
    · exact c
    · have := Int.mul_nonpos_of_nonneg_of_nonpos (show 0 ≤ (k : Int) by omega) c
      omega
  have q2 : s.st / (k : Int) ≤ s.st := Int.ediv_le_self _ (by omega)
  refine ⟨v.fr, ⟨by show 1 ≤ s.st / (k : Int); omega, by show s.st / (k : Int) ≤ 86400; omega⟩, by show (fnL s.ds k s.ds.length).length ≤ _; omega, ?_, fun x hx => ?_⟩
  · show _ ≤ s.fr + s.st / (k : Int) * ((fnL s.ds k s.ds.length).length : Int) ∧ _
    have e2 : s.st / (k : Int) * ((fnL s.ds k s.ds.length).length : Int) = s.st * (s.ds.length : Int) := by
      rw [len, Int.natCast_mul, Int.mul_comm (s.ds.length : Int), ← Int.mul_assoc, Int.mul_comm _ (k : Int), e]
    rw [e2]
    exact v.en
  · have hx' : x < (fnL s.ds k s.ds.length).length := hx
    rw [len] at hx'
    have dm := Nat.div_add_mod x k
    have i1 : x / k < s.ds.length := (Nat.div_lt_iff_lt_mul (by omega)).2 hx'
    have j1 : x % k < k := Nat.mod_lt _ (by omega)
    have d := v.ok (x / k) i1
    have a := fnD_at h1 h2 d.1 d.2 j1
    have ex := fnL_at h1 h2 v.ok s.ds.length (Nat.le_refl _) (x / k) (x % k) i1 j1
    rw [Nat.mul_comm, dm] at ex
    show -1 ≤ (fnL s.ds k s.ds.length).getD x 0 ∧ (fnL s.ds k s.ds.length).getD x 0 ≤ 4194304
    rw [ex]
    by_cases c : s.ds.getD (x / k) 0 = -1
    · have := a.1 c; omega
    · have := a.2 (by omega); omega
end
end Go.Proofs.Ytkbocphpnmpaeaa
