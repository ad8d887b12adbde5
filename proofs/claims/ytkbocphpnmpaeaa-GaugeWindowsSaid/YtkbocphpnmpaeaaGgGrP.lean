/- The greatest sums of neighbours: reached by a window, not exceeded by any, ascending, adding up at most; the parts of a record. Plain lists. -/
import Derived.Test.YtkbocphpnmpaeaaGgP2
namespace Go.Proofs.Ytkbocphpnmpaeaa
open Go.RowKit

/-- the greatest sum is that of the window that is found, and no window's is greater -/
theorem gm_top (l : List Int) {k : Nat} (hk : 1 ≤ k) : ∀ i, (k ≤ i → gf l k i + k ≤ i ∧ gm l k i = ps l (gf l k i + k) - ps l (gf l k i)) ∧ (∀ j, j + k ≤ i → ps l (j + k) - ps l j ≤ gm l k i)
  | 0 => ⟨fun h => by omega, fun j h => by omega⟩
  | i + 1 => by
    obtain ⟨h1, h2⟩ := gm_top l hk i
    have em : gm l k (i + 1) = if k ≤ i + 1 ∧ gm l k i < sk l k (i + 1) then sk l k (i + 1) else gm l k i := rfl
    have ef : gf l k (i + 1) = if k ≤ i + 1 ∧ gm l k i < sk l k (i + 1) then i + 1 - k else gf l k i := rfl
    have sb := sk_bd l k (i + 1)
    by_cases c : k ≤ i + 1 ∧ gm l k i < sk l k (i + 1)
    · rw [if_pos c] at em ef
      have e1 : i + 1 - k + k = i + 1 := by omega
      rw [em, ef, e1]
      refine ⟨fun _ => ⟨Nat.le_refl _, rfl⟩, fun j hj => ?_⟩
      by_cases d : j + k = i + 1
      · have : j = i + 1 - k := by omega
        rw [d, this]; exact Int.le_refl _
      · have := h2 j (by omega)
        have := c.2
        omega
    · rw [if_neg c] at em ef
      rw [em, ef]
      refine ⟨fun h => ?_, fun j hj => ?_⟩
      · have hn : ¬ gm l k i < sk l k (i + 1) := fun x => c ⟨h, x⟩
        by_cases d : k ≤ i
        · have := h1 d
          exact ⟨by omega, this.2⟩
        · have := gm_lt l k i (by omega)
          omega
      · by_cases d : j + k = i + 1
        · have hn : ¬ gm l k i < sk l k (i + 1) := fun x => c ⟨by omega, x⟩
          have e : sk l k (i + 1) = ps l (i + 1) - ps l (i + 1 - k) := rfl
          have : j = i + 1 - k := by omega
          rw [d, this]
          omega
        · exact h2 j (by omega)
/-- a longer window has no smaller greatest sum -/
theorem gm_grows (l : List Int) {i k : Nat} (hi : 1 ≤ i) (hik : i ≤ k) (hk : k ≤ l.length) : gm l i l.length ≤ gm l k l.length := by
  obtain ⟨h1, h2⟩ := (gm_top l hi l.length).1 (by omega)
  have up := (gm_top l (show 1 ≤ k by omega) l.length).2
  rw [h2]
  by_cases c : gf l i l.length + k ≤ l.length
  · have u := up _ c
    have := ps_mono l (show gf l i l.length + i ≤ gf l i l.length + k by omega)
    omega
  · have u := up (l.length - k) (by omega)
    rw [show l.length - k + k = l.length by omega] at u
    have a := ps_mono l h1
    have b := ps_mono l (show l.length - k ≤ gf l i l.length by omega)
    omega
/-- the greatest sums add up at most -/
theorem gm_adds (l : List Int) {i k : Nat} (hi : 1 ≤ i) (hk : 1 ≤ k) (h : i + k ≤ l.length) : gm l (i + k) l.length ≤ gm l i l.length + gm l k l.length := by
  obtain ⟨h1, h2⟩ := (gm_top l (show 1 ≤ i + k by omega) l.length).1 h
  have u := (gm_top l hi l.length).2 (gf l (i + k) l.length) (by omega)
  have v := (gm_top l hk l.length).2 (gf l (i + k) l.length + i) (by omega)
  rw [show gf l (i + k) l.length + i + k = gf l (i + k) l.length + (i + k) by omega] at v
  omega
/-- the record of some steps -/
def winL (l : List Int) (a b : Nat) : List Int := (l.drop a).take (b - a)
theorem winL_length {l : List Int} {a b : Nat} (h : a ≤ b) (hb : b ≤ l.length) : (winL l a b).length = b - a := by simp [winL]; omega
theorem winL_at {l : List Int} {a b i : Nat} (h : a + i < b) : (winL l a b).getD i 0 = l.getD (a + i) 0 := by simp [winL, show i < b - a by omega]
theorem ps_win {l : List Int} {a b : Nat} : ∀ i, a + i ≤ b → ps (winL l a b) i = ps l (a + i) - ps l a
  | 0, _ => by simp [ps]
  | i + 1, h => by
    have := ps_win (l := l) (a := a) (b := b) i (by omega)
    show ps (winL l a b) i + max ((winL l a b).getD i 0) 0 = (ps l (a + i) + max (l.getD (a + i) 0) 0) - ps l a
    rw [winL_at (by omega)]
    omega
theorem ms_win {l : List Int} {a b : Nat} : ∀ i, a + i ≤ b → ms (winL l a b) i = ms l (a + i) - ms l a
  | 0, _ => by simp [ms]
  | i + 1, h => by
    have := ms_win (l := l) (a := a) (b := b) i (by omega)
    show ms (winL l a b) i + (if (winL l a b).getD i 0 = -1 then 1 else 0) = (ms l (a + i) + (if l.getD (a + i) 0 = -1 then 1 else 0)) - ms l a
    rw [winL_at (by omega)]
    omega
/-- the record of some steps -/
def winS (s : Ser) (a b : Nat) : Ser := ⟨s.fr + s.st * (a : Int), s.st, winL s.ds a b⟩
theorem winS_valid {s : Ser} {a b : Nat} (h : a ≤ b) (hb : b ≤ s.ds.length) (v : VS s) : VS (winS s a b) := by
  have hl := winL_length h hb
  have s1 := v.st.1
  have e := v.en
  have f := v.fr
  have p1 : 0 ≤ s.st * (a : Int) := Int.mul_nonneg (by omega) (by omega)
  have p2 : s.st * (a : Int) ≤ s.st * (s.ds.length : Int) := Int.mul_le_mul_of_nonneg_left (by omega) (by omega)
  have p3 : s.st * (b : Int) ≤ s.st * (s.ds.length : Int) := Int.mul_le_mul_of_nonneg_left (by omega) (by omega)
  have p4 : s.st * (a : Int) ≤ s.st * (b : Int) := Int.mul_le_mul_of_nonneg_left (by omega) (by omega)
  have e2 : s.st * ((b - a : Nat) : Int) = s.st * (b : Int) - s.st * (a : Int) := by rw [Int.ofNat_sub h, Int.mul_sub]
  refine ⟨?_, v.st, ?_, ?_, ?_⟩
  · show _ ≤ s.fr + s.st * (a : Int) ∧ s.fr + s.st * (a : Int) ≤ _
    omega
  · show (winL s.ds a b).length ≤ _
    have := v.le
    omega
  · show _ ≤ s.fr + s.st * (a : Int) + s.st * ((winL s.ds a b).length : Int) ∧ s.fr + s.st * (a : Int) + s.st * ((winL s.ds a b).length : Int) ≤ _
    rw [hl, e2]
    omega
  · intro i hi
    have hi' : i < (winL s.ds a b).length := hi
    rw [hl] at hi'
    have := v.ok (a + i) (by omega)
    show -1 ≤ (winL s.ds a b).getD i 0 ∧ (winL s.ds a b).getD i 0 ≤ _
    rw [winL_at (by omega)]
    exact this
end Go.Proofs.Ytkbocphpnmpaeaa
