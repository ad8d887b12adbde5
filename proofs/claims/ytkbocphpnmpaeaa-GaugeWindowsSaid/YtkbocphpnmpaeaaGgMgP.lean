/- Merged records: the depth at an instant, the number of steps, the depths. Plain lists. -/
import Derived.Test.YtkbocphpnmpaeaaGgGrP
namespace Go.Proofs.Ytkbocphpnmpaeaa
open Go.RowKit

/-- the depth of a record at an instant -/
def atS (s : Ser) (t : Int) : Int := if s.fr ≤ t ∧ (t - s.fr) / s.st < (s.ds.length : Int) then s.ds.getD ((t - s.fr) / s.st).toNat 0 else -1
/-- the depth of both -/
def mgV (a b : Ser) (t : Int) : Int := if atS a t = -1 then atS b t else atS a t
def mgF (a b : Ser) : Int := min a.fr b.fr
def enS (s : Ser) : Int := s.fr + s.st * (s.ds.length : Int)
def mgN (a b : Ser) : Nat := ((max (enS a) (enS b) - mgF a b) / a.st).toNat
def mgL (a b : Ser) (n : Nat) : List Int := (List.range n).map fun k : Nat => mgV a b (mgF a b + a.st * (k : Int))
theorem mgL_succ (a b : Ser) (n : Nat) : mgL a b (n + 1) = mgL a b n ++ [mgV a b (mgF a b + a.st * (n : Int))] := by simp [mgL, List.range_succ]
theorem mgL_length (a b : Ser) (n : Nat) : (mgL a b n).length = n := by simp [mgL]
theorem mgL_at (a b : Ser) {n k : Nat} (h : k < n) : (mgL a b n).getD k 0 = mgV a b (mgF a b + a.st * (k : Int)) := by simp [mgL, h]
/-- the error of a merge -/
def mgE (a b : Ser) : Int := if vS a && vS b then (if a.st = b.st ∧ (a.fr - b.fr).tmod a.st = 0 then (if 10000 < mgN a b then 4 else 0) else 25) else 1
def mgS (a b : Ser) : Ser := if mgE a b = 0 then ⟨mgF a b, a.st, mgL a b (mgN a b)⟩ else ⟨0, 0, []⟩
theorem atS_bd {s : Ser} (v : VS s) (t : Int) : -1 ≤ atS s t ∧ atS s t ≤ 4194304 := by
  unfold atS
  split
  · rename_i h
    have st := v.st.1
    have p := Int.ediv_nonneg (show 0 ≤ t - s.fr by omega) (show 0 ≤ s.st by omega)
    exact v.ok _ (by omega)
  · omega
theorem mgV_bd {a b : Ser} (va : VS a) (vb : VS b) (t : Int) : -1 ≤ mgV a b t ∧ mgV a b t ≤ 4194304 := by
  unfold mgV
  split
  · exact atS_bd vb t
  · exact atS_bd va t
/-- bounds of a merge -/
theorem mg_bd {a b : Ser} (va : VS a) (vb : VS b) : (-68719476736 ≤ mgF a b ∧ mgF a b ≤ 68719476736) ∧ (-68719476736 ≤ enS a ∧ enS a ≤ 68719476736) ∧ (-68719476736 ≤ enS b ∧ enS b ≤ 68719476736) ∧ 0 ≤ max (enS a) (enS b) - mgF a b ∧ 0 ≤ (max (enS a) (enS b) - mgF a b) / a.st ∧ (max (enS a) (enS b) - mgF a b) / a.st ≤ 137438953472 ∧ (mgN a b : Int) = (max (enS a) (enS b) - mgF a b) / a.st := by
  have fa := va.fr
  have fb := vb.fr
  have ea := va.en
  have eb := vb.en
  have sa := va.st
  have pa : 0 ≤ a.st * (a.ds.length : Int) := Int.mul_nonneg (by omega) (by omega)
  have h0 : 0 ≤ max (enS a) (enS b) - mgF a b := by unfold enS mgF; omega
  have hx : max (enS a) (enS b) - mgF a b ≤ 137438953472 := by unfold enS mgF; omega
  have h1 := Int.ediv_nonneg h0 (show 0 ≤ a.st by omega)
  have h2 : (max (enS a) (enS b) - mgF a b) / a.st ≤ max (enS a) (enS b) - mgF a b := Int.ediv_le_self _ h0
  refine ⟨by unfold mgF; omega, ea, eb, h0, h1, by omega, ?_⟩
  unfold mgN
  omega
/-- the instants of a merge are within -/
theorem mg_t {a b : Ser} (va : VS a) (vb : VS b) {k : Nat} (hk : k < mgN a b) : 0 ≤ a.st * (k : Int) ∧ a.st * (k : Int) ≤ 137438953472 ∧ -68719476736 ≤ mgF a b + a.st * (k : Int) ∧ mgF a b + a.st * (k : Int) ≤ 68719476736 := by
  obtain ⟨hf, ea, eb, h0, h1, h2, h3⟩ := mg_bd va vb
  have sa := va.st
  have e := Int.mul_ediv_add_emod (max (enS a) (enS b) - mgF a b) a.st
  have r := Int.emod_nonneg (max (enS a) (enS b) - mgF a b) (show a.st ≠ 0 by omega)
  have p : 0 ≤ a.st * (k : Int) := Int.mul_nonneg (by omega) (by omega)
  have q : a.st * (k : Int) ≤ a.st * ((max (enS a) (enS b) - mgF a b) / a.st) := Int.mul_le_mul_of_nonneg_left (by omega) (by omega)
  omega
end Go.Proofs.Ytkbocphpnmpaeaa
