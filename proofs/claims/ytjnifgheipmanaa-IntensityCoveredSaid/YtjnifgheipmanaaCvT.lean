/- The table with twice its depths: it is valid where none is too great, and a record that the table covers is covered by it. -/
import Derived.Test.YtjnifgheipmanaaCvS2
import Derived.Test.YtjnifgheipmanaaCvP
import Derived.Test.YtjnifgheipmanaaRcCov
namespace Go.Proofs.Ytjnifgheipmanaa
open Go.RowKit

theorem scD_two (d : Int) : scD 2 1 d = 2 * d := by unfold scD; rw [Int.ediv_one, Int.mul_comm]
theorem cell_two (T : Tab) (j i : Nat) : (scT T 2 1).cell j i = 2 * T.cell j i := by
  unfold Tab.cell scT
  simp only
  by_cases h : j < T.rows.length
  · rw [sc_row h]
    generalize T.rows.getD j [] = r
    by_cases k : i < r.length
    · simp [k, scD_two]
    · simp [k]
  · simp [h]
theorem nT_two (T : Tab) (x y : Int) : nT (scT T 2 1) x y = 2 * nT T x y := by
  unfold nT
  have e : (scT T 2 1).cell = fun j i => 2 * T.cell j i := funext fun j => funext fun i => cell_two T j i
  rw [e]
  show (plc T.ps y).val (fun j => (plc T.ds x).val fun i => 2 * T.cell j i) = _
  unfold Pl.val
  grind
theorem loT_two {T : Tab} (v : VT T) {x y : Int} (h : inT T x y) : loT T x y ≤ loT (scT T 2 1) x y := by
  have bd := nT_bd v h
  unfold loT
  rw [nT_two]
  show nT T x y / dT T x y ≤ 2 * nT T x y / dT T x y
  exact Int.ediv_le_ediv bd.2.2.1 (by omega)
theorem vT_two {T : Tab} (h : vT T = true) (hb : scB T 2 1 = false) : vT (scT T 2 1) = true := by
  have v := of_vT h
  unfold vT at h
  simp only [Bool.and_eq_true] at h
  have rl : (scT T 2 1).rows.length = T.rows.length := by simp [scT]
  refine vT_yes h.1 h.2.1 (by rw [rl]; exact v.rl) (fun i hi => ?_)
  rw [rl] at hi
  have lr : ((scT T 2 1).rows.getD i []).length = T.ds.length := by
    show ((T.rows.map fun r => r.map (scD 2 1)).getD i []).length = _
    rw [sc_row hi, List.length_map]; exact v.rw i (by have := v.rl; omega)
  refine okR_yes lr (fun k hk => ?_)
  have ok := of_decide_eq_true (List.all_eq_true.1 (Bool.and_eq_true_iff.1 (List.all_eq_true.1 h.2.2.2 i (List.mem_range.2 hi))).2 k (List.mem_range.2 hk))
  unfold okC
  rw [cell_two, cell_two, cell_two]
  have nb : ¬ 4194304 < 2 * T.cell i k := fun hh => by
    have := scB_yes (num := 2) (den := 1) hi (k := k) (by rw [v.rw i (by have := v.rl; omega)]; exact hk) (by rw [scD_two]; exact hh)
    rw [hb] at this; cases this
  exact decide_eq_true ⟨by omega, by omega, by omega, by omega⟩
theorem idxP_neg {p : Int → Bool} {l : List Int} (h : idxP p l < 0) : ∀ i (hi : i < l.length), p l[i] = false := fun i hi => by
  have e := any_idx p l
  rw [decide_eq_false (by omega)] at e
  rcases Bool.eq_false_or_eq_true (p l[i]) with q | q
  · exfalso
    have : l.any p = true := List.any_eq_true.2 ⟨l[i], List.getElem_mem hi, q⟩
    rw [e] at this; cases this
  · exact q
theorem covI_two {T : Tab} {s : Ser} {y : Int} (v : VT T) (hy : inL T.ps y = true) (h : covI T s y < 0) : covI (scT T 2 1) s y = -1 := by
  refine idxP_no (fun i hi => ?_)
  have n := idxP_neg h i hi
  have ix := inL_at v.dA hi
  rw [getD_getElem (l := T.ds) hi] at ix
  have le := loT_two v (x := T.ds[i]) (y := y) ⟨ix, hy⟩
  show (lastB s T.ds[i] && decide (loT (scT T 2 1) T.ds[i] y < gmS s T.ds[i])) = false
  unfold covP at n
  cases hl : lastB s T.ds[i]
  · rfl
  · rw [hl] at n
    have n2 := of_decide_eq_false (show decide (loT T T.ds[i] y < gmS s T.ds[i]) = false from n)
    show decide _ = false
    exact decide_eq_false (by omega)
theorem covI_bd (T : Tab) (s : Ser) (y : Int) : -1 ≤ covI T s y ∧ (covI T s y < T.ds.length) ∧ (covI T s y < 0 → covI T s y = -1) := by
  unfold covI idxP
  cases h : T.ds.findIdx? (covP T s y) with
  | none => simp; omega
  | some i =>
    rw [List.findIdx?_eq_some_iff_getElem] at h
    obtain ⟨hi, _⟩ := h
    simp only
    omega
end Go.Proofs.Ytjnifgheipmanaa
