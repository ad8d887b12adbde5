/- Merging the windows of a record, a record with itself, and two records: plain lists. -/
import Derived.Test.YtkbocphpnmpaeaaGgMgP
import Derived.Test.YtkbocphpnmpaeaaGgSame
namespace Go.Proofs.Ytkbocphpnmpaeaa
open Go.RowKit

/-- the depth at an instant of the grid -/
theorem atS_grid {s : Ser} (h : 1 ≤ s.st) (j : Int) : atS s (s.fr + s.st * j) = if 0 ≤ j ∧ j < (s.ds.length : Int) then s.ds.getD j.toNat 0 else -1 := by
  have e : s.fr + s.st * j - s.fr = s.st * j := by omega
  have d : s.st * j / s.st = j := Int.mul_ediv_cancel_left j (by omega)
  have c : s.fr ≤ s.fr + s.st * j ↔ 0 ≤ j := by
    constructor
    · intro x
      rcases Int.lt_or_le j 0 with y | y
      · have := Int.mul_neg_of_pos_of_neg (show 0 < s.st by omega) y
        omega
      · exact y
    · intro x
      have := Int.mul_nonneg (show 0 ≤ s.st by omega) x
      omega
  unfold atS
  rw [e, d]
  by_cases g : 0 ≤ j ∧ j < (s.ds.length : Int)
  · rw [if_pos g, if_pos ⟨c.2 g.1, g.2⟩]
  · rw [if_neg g, if_neg (fun x => g ⟨c.1 x.1, x.2⟩)]
theorem div_grid {st d : Int} (h : 1 ≤ st) {n : Nat} (e : d = st * (n : Int)) : (d / st).toNat = n := by
  rw [e, Int.mul_ediv_cancel_left _ (by omega)]; rfl
theorem winS_ends {s : Ser} {a b : Nat} (h : a ≤ b) (hb : b ≤ s.ds.length) : enS (winS s a b) = s.fr + s.st * (b : Int) := by
  unfold enS
  show s.fr + s.st * (a : Int) + s.st * ((winL s.ds a b).length : Int) = _
  rw [winL_length h hb, Int.ofNat_sub h, Int.mul_sub]; omega
/-- the windows merge to the whole -/
theorem merge_win {s : Ser} (v : VS s) {k : Nat} (hk : k ≤ s.ds.length) : mgE (winS s k s.ds.length) (winS s 0 k) = 0 ∧ mgS (winS s k s.ds.length) (winS s 0 k) = s := by
  have st := v.st
  have vb := winS_valid hk (Nat.le_refl _) v
  have va := winS_valid (Nat.zero_le k) hk v
  have pk : 0 ≤ s.st * (k : Int) := Int.mul_nonneg (by omega) (by omega)
  have pn : s.st * (k : Int) ≤ s.st * (s.ds.length : Int) := Int.mul_le_mul_of_nonneg_left (by omega) (by omega)
  have eb := winS_ends (s := s) hk (Nat.le_refl _)
  have ea := winS_ends (s := s) (Nat.zero_le k) hk
  have fb : (winS s k s.ds.length).fr = s.fr + s.st * (k : Int) := rfl
  have fa : (winS s 0 k).fr = s.fr := by show s.fr + s.st * ((0 : Nat) : Int) = _; simp
  have f : mgF (winS s k s.ds.length) (winS s 0 k) = s.fr := by unfold mgF; rw [fb, fa]; omega
  have n : mgN (winS s k s.ds.length) (winS s 0 k) = s.ds.length := by
    unfold mgN
    rw [f, eb, ea]
    exact div_grid (st := s.st) st.1 (by omega)
  have e : mgE (winS s k s.ds.length) (winS s 0 k) = 0 := by
    unfold mgE
    rw [vS_iff.2 vb, vS_iff.2 va, if_pos (show (true && true) = true from rfl), if_pos, if_neg (by rw [n]; have := v.le; omega)]
    refine ⟨rfl, ?_⟩
    rw [fb, fa, show s.fr + s.st * (k : Int) - s.fr = s.st * (k : Int) by omega]
    exact Int.mul_tmod_right _ _
  refine ⟨e, ?_⟩
  unfold mgS
  rw [e, if_pos rfl, f, n]
  have hl : mgL (winS s k s.ds.length) (winS s 0 k) s.ds.length = s.ds := by
    refine getD_ext (mgL_length _ _ _) (fun j hj => ?_)
    rw [mgL_length] at hj
    rw [mgL_at _ _ hj, f]
    have t1 : s.fr + (winS s k s.ds.length).st * (j : Int) = (winS s k s.ds.length).fr + (winS s k s.ds.length).st * ((j : Int) - (k : Int)) := by
      show s.fr + s.st * (j : Int) = s.fr + s.st * (k : Int) + s.st * ((j : Int) - (k : Int))
      rw [Int.mul_sub]; omega
    have t2 : s.fr + (winS s k s.ds.length).st * (j : Int) = (winS s 0 k).fr + (winS s 0 k).st * (j : Int) := by rw [fa]; rfl
    have lb : ((winS s k s.ds.length).ds.length : Int) = (s.ds.length : Int) - (k : Int) := by
      show ((winL s.ds k s.ds.length).length : Int) = _
      rw [winL_length hk (Nat.le_refl _)]; omega
    have la : ((winS s 0 k).ds.length : Int) = (k : Int) := by
      show ((winL s.ds 0 k).length : Int) = _
      rw [winL_length (Nat.zero_le _) hk]; omega
    have gb : atS (winS s k s.ds.length) (s.fr + (winS s k s.ds.length).st * (j : Int)) = if k ≤ j then s.ds.getD j 0 else -1 := by
      rw [t1, atS_grid (s := winS s k s.ds.length) st.1, lb]
      by_cases c : k ≤ j
      · rw [if_pos (by omega), if_pos c]
        show (winL s.ds k s.ds.length).getD ((j : Int) - (k : Int)).toNat 0 = _
        rw [show ((j : Int) - (k : Int)).toNat = j - k by omega, winL_at (by omega), show k + (j - k) = j by omega]
      · rw [if_neg (by omega), if_neg c]
    have ga : atS (winS s 0 k) (s.fr + (winS s k s.ds.length).st * (j : Int)) = if j < k then s.ds.getD j 0 else -1 := by
      rw [t2, atS_grid (s := winS s 0 k) st.1, la]
      by_cases c : j < k
      · rw [if_pos (by omega), if_pos c]
        show (winL s.ds 0 k).getD ((j : Int)).toNat 0 = _
        rw [show ((j : Int)).toNat = j by omega, winL_at (by omega), Nat.zero_add]
      · rw [if_neg (by omega), if_neg c]
    unfold mgV
    rw [gb, ga]
    by_cases c : k ≤ j
    · rw [if_pos c, if_neg (show ¬ j < k by omega)]
      split
      · rename_i z; exact z.symm
      · rfl
    · rw [if_neg c, if_pos rfl, if_pos (by omega)]
  rw [hl]
  rfl
/-- a record merged with itself is this record -/
theorem merge_self {s : Ser} (v : VS s) : mgE s s = 0 ∧ mgS s s = s := by
  have st := v.st
  have pn : 0 ≤ s.st * (s.ds.length : Int) := Int.mul_nonneg (by omega) (by omega)
  have f : mgF s s = s.fr := by unfold mgF; omega
  have n : mgN s s = s.ds.length := by
    unfold mgN
    rw [f]
    exact div_grid (st := s.st) st.1 (by unfold enS; omega)
  have e : mgE s s = 0 := by
    unfold mgE
    rw [vS_iff.2 v, if_pos (show (true && true) = true from rfl), if_pos, if_neg (by rw [n]; have := v.le; omega)]
    exact ⟨rfl, by rw [Int.sub_self]; exact Int.zero_tmod _⟩
  refine ⟨e, ?_⟩
  unfold mgS
  rw [e, if_pos rfl, f, n]
  have hl : mgL s s s.ds.length = s.ds := by
    refine getD_ext (mgL_length _ _ _) (fun j hj => ?_)
    rw [mgL_length] at hj
    rw [mgL_at _ _ hj, f]
    have g : atS s (s.fr + s.st * (j : Int)) = s.ds.getD j 0 := by rw [atS_grid st.1, if_pos ⟨by omega, by omega⟩, show ((j : Int)).toNat = j by omega]
    unfold mgV
    rw [g]
    split <;> rfl
  rw [hl]
/-- where the records of a merge begin, and what it holds there -/
theorem merge_two {s t : Ser} (e : mgE s t = 0) : VS s ∧ VS t ∧ s.st = t.st ∧ mgN s t ≤ 10000 ∧ ∃ p q : Nat, s.fr - mgF s t = s.st * (p : Int) ∧ t.fr - mgF s t = s.st * (q : Int) ∧ p + s.ds.length ≤ mgN s t ∧ q + t.ds.length ≤ mgN s t ∧
    (∀ i, i < s.ds.length → (s.ds.getD i 0 = -1 ∨ (mgL s t (mgN s t)).getD (p + i) 0 = s.ds.getD i 0)) ∧ (∀ i, i < t.ds.length → (t.ds.getD i 0 = -1 ∨ 0 ≤ (mgL s t (mgN s t)).getD (q + i) 0)) := by
  unfold mgE at e
  split at e
  rotate_left
  · omega
  rename_i hv
  split at e
  rotate_left
  · omega
  rename_i hs
  split at e
  · omega
  rename_i hn
  obtain ⟨v1, v2⟩ := Bool.and_eq_true_iff.1 hv
  have va := vS_iff.1 v1
  have vb := vS_iff.1 v2
  obtain ⟨h1, h2⟩ := hs
  have st := va.st
  obtain ⟨mf, mea, meb, mb0, mb1, mb2, mb3⟩ := mg_bd va vb
  have dv : s.st ∣ s.fr - t.fr := Int.dvd_of_tmod_eq_zero h2
  have key : ∀ d : Int, 0 ≤ d → s.st ∣ d → ∃ p : Nat, d = s.st * (p : Int) := fun d h0 hd => by
    obtain ⟨c, hc⟩ := hd
    have c0 : 0 ≤ c := by
      rcases Int.lt_or_le c 0 with x | x
      · have := Int.mul_neg_of_pos_of_neg (show 0 < s.st by omega) x
        omega
      · exact x
    exact ⟨c.toNat, by rw [hc, Int.toNat_of_nonneg c0]⟩
  have ds : s.st ∣ s.fr - mgF s t ∧ s.st ∣ t.fr - mgF s t := by
    unfold mgF
    rcases Int.lt_or_le t.fr s.fr with c | c
    · rw [show min s.fr t.fr = t.fr by omega]
      exact ⟨dv, by rw [Int.sub_self]; exact Int.dvd_zero _⟩
    · rw [show min s.fr t.fr = s.fr by omega]
      refine ⟨by rw [Int.sub_self]; exact Int.dvd_zero _, ?_⟩
      rw [show t.fr - s.fr = -(s.fr - t.fr) by omega]
      exact Int.dvd_neg.2 dv
  have ms : mgF s t ≤ s.fr ∧ mgF s t ≤ t.fr := by unfold mgF; omega
  obtain ⟨p, hp⟩ := key _ (show 0 ≤ s.fr - mgF s t by omega) ds.1
  obtain ⟨q, hq⟩ := key _ (show 0 ≤ t.fr - mgF s t by omega) ds.2
  have fits : ∀ (r n : Nat) (x : Int), x = s.st * (r : Int) → x + s.st * (n : Int) ≤ max (enS s) (enS t) - mgF s t → r + n ≤ mgN s t := fun r n x hx hle => by
    have : s.st * ((r + n : Nat) : Int) ≤ max (enS s) (enS t) - mgF s t := by rw [Int.natCast_add, Int.mul_add]; omega
    have := (Int.le_ediv_iff_mul_le (show 0 < s.st by omega)).2 (show ((r + n : Nat) : Int) * s.st ≤ max (enS s) (enS t) - mgF s t by rw [Int.mul_comm]; exact this)
    omega
  have b1 := fits p s.ds.length _ hp (by unfold enS; omega)
  have b2 := fits q t.ds.length _ hq (by unfold enS; rw [h1]; omega)
  refine ⟨va, vb, h1, by omega, p, q, hp, hq, b1, b2, fun i hi => ?_, fun i hi => ?_⟩
  · have ti : mgF s t + s.st * ((p + i : Nat) : Int) = s.fr + s.st * (i : Int) := by rw [Int.natCast_add, Int.mul_add]; omega
    rw [mgL_at _ _ (by omega), ti]
    have g : atS s (s.fr + s.st * (i : Int)) = s.ds.getD i 0 := by rw [atS_grid st.1, if_pos ⟨by omega, by omega⟩, show ((i : Int)).toNat = i by omega]
    unfold mgV
    rw [g]
    by_cases c : s.ds.getD i 0 = -1
    · exact .inl c
    · exact .inr (if_neg c)
  · have ti : mgF s t + s.st * ((q + i : Nat) : Int) = t.fr + t.st * (i : Int) := by rw [← h1, Int.natCast_add, Int.mul_add]; omega
    rw [mgL_at _ _ (by omega), ti]
    have g : atS t (t.fr + t.st * (i : Int)) = t.ds.getD i 0 := by rw [atS_grid vb.st.1, if_pos ⟨by omega, by omega⟩, show ((i : Int)).toNat = i by omega]
    have d := vb.ok i hi
    have u := atS_bd va (t.fr + t.st * (i : Int))
    unfold mgV
    rw [g]
    by_cases c : t.ds.getD i 0 = -1
    · exact .inl c
    · right
      split
      · omega
      · omega
end Go.Proofs.Ytkbocphpnmpaeaa
