/- Wetting and infiltration, said of numbers: what a step of rain does to a store, and what runs off. -/
import Derived.Test.YtljaibbmceknfaaClsPlain
namespace Go.Proofs.Ytljaibbmceknfaa
open Go.RowKit

structure Sto where
  wt : Int
  he : Int
abbrev Sto.val (s : Sto) : Value := .agg #[.int .i64 s.wt, .int .i64 s.he]
def Sto.zero : Sto := ⟨0, 0⟩

def wetBy (c : Cls) (s : Sto) (d : Int) : Int := min d (c.we - s.wt)
def heldBy (c : Cls) (s : Sto) (d : Int) : Int := min (d - wetBy c s d) (c.ro - s.he)
def runoff (c : Cls) (s : Sto) (d : Int) : Int := (d - wetBy c s d) * c.se + (d - wetBy c s d - heldBy c s d) * (1000 - c.se)
def lessI (n num den : Int) : Int := max 0 (n - (num + den - 1) / den)
def stepHe (c : Cls) (s : Sto) (d t : Int) : Int := lessI (s.he + heldBy c s d) ((s.he + heldBy c s d) * c.dr * t) 3600000
def stepWt (c : Cls) (s : Sto) (d t : Int) : Int := if d = 0 then lessI (s.wt + wetBy c s d) (c.we * t) 86400 else s.wt + wetBy c s d
def stepS (c : Cls) (s : Sto) (d t : Int) : Sto := ⟨stepWt c s d t, stepHe c s d t⟩
/-- a store is one of a class whose numbers are right -/
def HoldsP (c : Cls) (s : Sto) : Prop := 0 ≤ s.wt ∧ s.wt ≤ c.we ∧ 0 ≤ s.he ∧ s.he ≤ c.ro
def RightP (c : Cls) : Prop := 0 ≤ c.se ∧ c.se ≤ 1000 ∧ 0 ≤ c.we ∧ c.we ≤ 100000 ∧ 0 ≤ c.ro ∧ c.ro ≤ 1000000 ∧ 0 ≤ c.dr ∧ c.dr ≤ 1000
theorem wetBy_bd {c : Cls} {s : Sto} {d : Int} (h : HoldsP c s) (hd : 0 ≤ d) : 0 ≤ wetBy c s d ∧ wetBy c s d ≤ d ∧ wetBy c s d ≤ c.we - s.wt := by unfold wetBy; have := h; unfold HoldsP at this; omega
theorem heldBy_bd {c : Cls} {s : Sto} {d : Int} (h : HoldsP c s) (hd : 0 ≤ d) : 0 ≤ heldBy c s d ∧ heldBy c s d ≤ d - wetBy c s d ∧ heldBy c s d ≤ c.ro - s.he := by
  have h1 := wetBy_bd h hd
  unfold heldBy; have := h; unfold HoldsP at this; omega
theorem lessI_bd {n m k : Int} (hn : 0 ≤ n) (hm : 0 ≤ m) (hk : 0 < k) : 0 ≤ lessI n m k ∧ lessI n m k ≤ n := by
  have : 0 ≤ (m + k - 1) / k := Int.ediv_nonneg (by omega) (by omega)
  unfold lessI; omega
theorem mul3_bd {a b t : Int} (ha : 0 ≤ a) (ha' : a ≤ 1000000) (hb : 0 ≤ b) (hb' : b ≤ 1000) (ht : 0 ≤ t) (ht' : t ≤ 86400) : 0 ≤ a * b ∧ a * b ≤ 1000000000 ∧ 0 ≤ a * b * t ∧ a * b * t ≤ 86400000000000 := by
  have h1 : 0 ≤ a * b := Int.mul_nonneg ha hb
  have h2 : a * b ≤ 1000000 * 1000 := Int.mul_le_mul ha' hb' hb (by omega)
  have h3 : 0 ≤ a * b * t := Int.mul_nonneg h1 ht
  have h4 : a * b * t ≤ 1000000000 * 86400 := Int.mul_le_mul (by omega) ht' ht (by omega)
  omega
theorem step_holds {c : Cls} {s : Sto} {d t : Int} (hr : RightP c) (h : HoldsP c s) (hd : 0 ≤ d) (ht : 0 ≤ t) (ht' : t ≤ 86400) : HoldsP c (stepS c s d t) := by
  have h1 := wetBy_bd h hd
  have h2 := heldBy_bd h hd
  unfold RightP at hr
  have h' := h
  unfold HoldsP at h'
  have h3 := mul3_bd (a := s.he + heldBy c s d) (b := c.dr) (t := t) (by omega) (by omega) (by omega) (by omega) ht ht'
  have h4 := lessI_bd (n := s.he + heldBy c s d) (m := (s.he + heldBy c s d) * c.dr * t) (k := 3600000) (by omega) (by omega) (by omega)
  have h5 : 0 ≤ c.we * t := Int.mul_nonneg (by omega) ht
  have h6 := lessI_bd (n := s.wt + wetBy c s d) (m := c.we * t) (k := 86400) (by omega) (by omega) (by omega)
  refine ⟨?_, ?_, ?_, ?_⟩ <;> simp only [stepS, stepWt, stepHe] <;> try split
  all_goals omega
theorem runoff_bd {c : Cls} {s : Sto} {d : Int} (hr : RightP c) (h : HoldsP c s) (hd : 0 ≤ d) (hd' : d ≤ 4194304) : 0 ≤ runoff c s d ∧ runoff c s d ≤ 1000 * d := by
  have h1 := wetBy_bd h hd
  have h2 := heldBy_bd h hd
  unfold RightP at hr
  unfold runoff
  generalize wetBy c s d = x at *
  generalize heldBy c s d = y at *
  have e1 : 0 ≤ (d - x) * c.se := Int.mul_nonneg (by omega) (by omega)
  have e2 : 0 ≤ (d - x - y) * (1000 - c.se) := Int.mul_nonneg (by omega) (by omega)
  have e3 : (d - x - y) * (1000 - c.se) ≤ (d - x) * (1000 - c.se) := Int.mul_le_mul_of_nonneg_right (by omega) (by omega)
  have e4 : (d - x) * c.se + (d - x) * (1000 - c.se) = 1000 * (d - x) := by rw [← Int.mul_add]; rw [show c.se + (1000 - c.se) = 1000 by omega]; omega
  omega
end Go.Proofs.Ytljaibbmceknfaa
