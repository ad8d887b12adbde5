/- Records of rain: sums, greatest sums, validity; where a record lies in memory. -/
import Derived.Test.YtkbocphpnmpaeaaOwn2
namespace Go.Proofs.Ytkbocphpnmpaeaa
open Go.RowKit

theorem IntSl.atg {w : World} {A : Option Addr} {l : List Int} (h : IntSl w A l) (h0 : 0 < l.length) : ∃ b off, A = some ⟨b, off, none⟩ ∧ b < w.heap.size ∧ ∀ i, i < l.length → w.cell? ⟨b, off + i, none⟩ = some (.int .i64 (l.getD i 0)) := by
  obtain ⟨b, off, e, hb, hat⟩ := h.2 h0
  refine ⟨b, off, e, hb, fun i hi => ?_⟩
  rw [hat i hi]; simp [hi]
/-- a record of rain -/
structure Ser where
  fr : Int
  st : Int
  ds : List Int
structure SerA where
  A : Option Addr
  c : Nat
abbrev Ser.val (s : Ser) (a : SerA) : Value := .agg #[.int .i64 s.fr, .int .i64 s.st, .slice a.A s.ds.length a.c]
abbrev Ser.cells (s : Ser) (a : SerA) : Array Value := #[.int .i64 s.fr, .int .i64 s.st, .slice a.A s.ds.length a.c]
def SerSl (w : World) (s : Ser) (a : SerA) : Prop := IntSl w a.A s.ds ∧ s.ds.length ≤ a.c ∧ (-9223372036854775808 ≤ s.fr ∧ s.fr ≤ 9223372036854775807) ∧ (-9223372036854775808 ≤ s.st ∧ s.st ≤ 9223372036854775807)
theorem SerSl.below {w w' : World} {s : Ser} {a : SerA} (h : SerSl w s a) (hb : Below w.heap.size w w') : SerSl w' s a := ⟨h.1.below hb, h.2⟩
/-- an instant -/
def insB (t : Int) : Bool := decide (-68719476736 ≤ t ∧ t ≤ 68719476736)
def okD (l : List Int) : Bool := (List.range l.length).all fun i => decide (-1 ≤ l.getD i 0 ∧ l.getD i 0 ≤ 4194304)
def vS (s : Ser) : Bool := insB s.fr && (decide (1 ≤ s.st ∧ s.st ≤ 86400) && (decide (s.ds.length ≤ 10000) && (insB (s.fr + s.st * s.ds.length) && okD s.ds)))
theorem okD_iff {l : List Int} : okD l = true ↔ ∀ i, i < l.length → -1 ≤ l.getD i 0 ∧ l.getD i 0 ≤ 4194304 := by
  simp [okD, List.all_eq_true]
theorem okD_any (l : List Int) : l.any (fun d => decide (d < -1) || decide (4194304 < d)) = !okD l := by
  rw [Bool.eq_iff_iff]
  simp only [List.any_eq_true, Bool.or_eq_true, decide_eq_true_eq, Bool.not_eq_true', Bool.eq_false_iff, ne_eq, okD_iff]
  constructor
  · rintro ⟨x, hx, h⟩ k
    obtain ⟨i, hi, rfl⟩ := List.mem_iff_getElem.1 hx
    have := k i hi
    simp only [List.getD_eq_getElem?_getD, List.getElem?_eq_getElem hi, Option.getD_some] at this
    omega
  · intro h
    have : ∃ i, i < l.length ∧ ¬ (-1 ≤ l.getD i 0 ∧ l.getD i 0 ≤ 4194304) := by
      exact Classical.byContradiction fun k => h fun i hi => Classical.byContradiction fun k2 => k ⟨i, hi, k2⟩
    obtain ⟨i, hi, h2⟩ := this
    simp only [List.getD_eq_getElem?_getD, List.getElem?_eq_getElem hi, Option.getD_some] at h2
    exact ⟨l[i], List.getElem_mem hi, by omega⟩
/-- what a valid record is -/
structure VS (s : Ser) : Prop where
  fr : -68719476736 ≤ s.fr ∧ s.fr ≤ 68719476736
  st : 1 ≤ s.st ∧ s.st ≤ 86400
  le : s.ds.length ≤ 10000
  en : -68719476736 ≤ s.fr + s.st * s.ds.length ∧ s.fr + s.st * s.ds.length ≤ 68719476736
  ok : ∀ i, i < s.ds.length → -1 ≤ s.ds.getD i 0 ∧ s.ds.getD i 0 ≤ 4194304
theorem vS_iff {s : Ser} : vS s = true ↔ VS s := by
  unfold vS insB
  simp only [Bool.and_eq_true, decide_eq_true_eq, okD_iff]
  exact ⟨fun ⟨a, b, c, d, e⟩ => ⟨a, b, c, d, e⟩, fun h => ⟨h.fr, h.st, h.le, h.en, h.ok⟩⟩
/-- the sum of the first depths, a missing one counting as 0 -/
def ps (l : List Int) : Nat → Int | 0 => 0 | i + 1 => ps l i + max (l.getD i 0) 0
/-- the sum of the last k of the first i depths -/
def sk (l : List Int) (k i : Nat) : Int := ps l i - ps l (i - k)
theorem ps_mono (l : List Int) {i j : Nat} (h : i ≤ j) : ps l i ≤ ps l j := by
  induction j with
  | zero => have : i = 0 := by omega
            subst this; exact Int.le_refl _
  | succ j ih =>
    rcases Nat.lt_or_ge i (j + 1) with h1 | h1
    · have := ih (by omega)
      show ps l i ≤ ps l j + max (l.getD j 0) 0
      have : (0 : Int) ≤ max (l.getD j 0) 0 := Int.le_max_right _ _
      omega
    · have : i = j + 1 := by omega
      subst this; exact Int.le_refl _
theorem ps_nonneg (l : List Int) (i : Nat) : 0 ≤ ps l i := by have := ps_mono l (Nat.zero_le i); simpa [ps] using this
theorem ps_le {l : List Int} (h : ∀ i, i < l.length → l.getD i 0 ≤ 4194304) : ∀ i, i ≤ l.length → ps l i ≤ 4194304 * (i : Int)
  | 0, _ => by simp [ps]
  | i + 1, hi => by
    have := ps_le h i (by omega)
    have := h i (by omega)
    show ps l i + max (l.getD i 0) 0 ≤ _
    have : max (l.getD i 0) 0 ≤ 4194304 := Int.max_le.2 ⟨by omega, by omega⟩
    omega
theorem sk_bd (l : List Int) (k i : Nat) : 0 ≤ sk l k i ∧ sk l k i ≤ ps l i := by
  have := ps_mono l (Nat.sub_le i k)
  have := ps_nonneg l (i - k)
  unfold sk; omega
/-- the greatest sum of k neighbours so far, and where it begins (the program's) -/
def gm (l : List Int) (k : Nat) : Nat → Int | 0 => -1 | i + 1 => if k ≤ i + 1 ∧ gm l k i < sk l k (i + 1) then sk l k (i + 1) else gm l k i
def gf (l : List Int) (k : Nat) : Nat → Nat | 0 => 0 | i + 1 => if k ≤ i + 1 ∧ gm l k i < sk l k (i + 1) then i + 1 - k else gf l k i
/-- the greatest sum so far (the reference's of layer 19) -/
def rm (l : List Int) (k : Nat) : Nat → Int | 0 => 0 | i + 1 => if rm l k i < sk l k (i + 1) then sk l k (i + 1) else rm l k i
theorem gm_lt (l : List Int) (k : Nat) : ∀ i, i < k → gm l k i = -1
  | 0, _ => rfl
  | i + 1, h => by
    show (if k ≤ i + 1 ∧ _ then _ else gm l k i) = -1
    rw [if_neg (by omega)]
    exact gm_lt l k i (by omega)
theorem rm_lt (l : List Int) (k : Nat) : ∀ i, i ≤ k → rm l k i = ps l i
  | 0, _ => rfl
  | i + 1, h => by
    have e : sk l k (i + 1) = ps l (i + 1) := by
      unfold sk; rw [show i + 1 - k = 0 by omega]; simp [ps]
    show (if rm l k i < sk l k (i + 1) then sk l k (i + 1) else rm l k i) = _
    rw [rm_lt l k i (by omega), e]
    split
    · rfl
    · have := ps_mono l (Nat.le_succ i)
      have e2 : ps l (i + 1) = ps l (i.succ) := rfl
      omega
theorem gm_eq (l : List Int) (k : Nat) (hk : 1 ≤ k) : ∀ i, k ≤ i → gm l k i = rm l k i
  | 0, h => by omega
  | i + 1, h => by
    show (if k ≤ i + 1 ∧ gm l k i < sk l k (i + 1) then sk l k (i + 1) else gm l k i) = (if rm l k i < sk l k (i + 1) then sk l k (i + 1) else rm l k i)
    rcases Nat.lt_or_ge i k with h1 | h1
    · have e : i + 1 = k := by omega
      have s : sk l k (i + 1) = ps l (i + 1) := by unfold sk; rw [show i + 1 - k = 0 by omega]; simp [ps]
      rw [gm_lt l k i h1, rm_lt l k i (by omega), s]
      have m := ps_mono l (Nat.le_succ i)
      have e2 : ps l (i + 1) = ps l (i.succ) := rfl
      have n := ps_nonneg l (i + 1)
      rw [if_pos ⟨by omega, by omega⟩]
      split
      · rfl
      · omega
    · rw [gm_eq l k hk i h1]
      by_cases h2 : rm l k i < sk l k (i + 1)
      · rw [if_pos ⟨by omega, h2⟩, if_pos h2]
      · rw [if_neg (fun h => h2 h.2), if_neg h2]
theorem gm_bd (l : List Int) (k : Nat) : ∀ i, -1 ≤ gm l k i ∧ (gm l k i ≤ ps l i ∨ gm l k i = -1)
  | 0 => by simp [gm]
  | i + 1 => by
    have := gm_bd l k i
    have b := sk_bd l k (i + 1)
    have m := ps_mono l (Nat.le_succ i)
    have e2 : ps l (i + 1) = ps l (i.succ) := rfl
    show -1 ≤ (if k ≤ i + 1 ∧ gm l k i < sk l k (i + 1) then sk l k (i + 1) else gm l k i) ∧ ((if k ≤ i + 1 ∧ gm l k i < sk l k (i + 1) then sk l k (i + 1) else gm l k i) ≤ _ ∨ (if k ≤ i + 1 ∧ gm l k i < sk l k (i + 1) then sk l k (i + 1) else gm l k i) = -1)
    split <;> omega
theorem sk_step (l : List Int) (k i : Nat) : sk l k (i + 1) = sk l k i + max (l.getD i 0) 0 - (if k ≤ i then max (l.getD (i - k) 0) 0 else 0) := by
  unfold sk
  by_cases h : k ≤ i
  · rw [if_pos h, show i + 1 - k = (i - k) + 1 by omega]
    simp only [ps]; omega
  · rw [if_neg h, show i + 1 - k = 0 by omega, show i - k = 0 by omega]
    simp only [ps]; omega
end Go.Proofs.Ytkbocphpnmpaeaa
