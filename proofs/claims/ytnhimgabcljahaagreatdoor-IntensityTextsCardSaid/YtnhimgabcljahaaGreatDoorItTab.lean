/- Tables of intensities: when one is valid, and the depth within it, as the program and as the reference reckon it. -/
import Derived.Test.YtnhimgabcljahaaGreatDoorItLine
namespace Go.Proofs.YtnhimgabcljahaaGreatDoor
open Go.RowKit

structure Tab where
  ds : List Int
  ps : List Int
  rows : List (List Int)
def Tab.cell (T : Tab) (j i : Nat) : Int := (T.rows.getD j []).getD i 0
def okA (l : List Int) (most : Int) (i : Nat) : Bool := decide (1 ≤ l.getD i 0 ∧ l.getD i 0 ≤ most ∧ (i = 0 ∨ l.getD (i - 1) 0 < l.getD i 0))
def ascB (l : List Int) (count most : Int) : Bool := (List.range l.length).all (okA l most) && decide (1 ≤ l.length ∧ (l.length : Int) ≤ count)
def okC (T : Tab) (i k : Nat) : Bool := decide (0 ≤ T.cell i k ∧ T.cell i k ≤ 4194304 ∧ (k = 0 ∨ T.cell i (k - 1) ≤ T.cell i k) ∧ (i = 0 ∨ T.cell (i - 1) k ≤ T.cell i k))
def okR (T : Tab) (i : Nat) : Bool := decide ((T.rows.getD i []).length = T.ds.length) && (List.range T.ds.length).all (okC T i)
def vT (T : Tab) : Bool := ascB T.ds 100 2592000 && (ascB T.ps 20 10000 && (decide (T.rows.length = T.ps.length) && (List.range T.rows.length).all (okR T)))
structure VT (T : Tab) : Prop where
  d1 : 1 ≤ T.ds.length
  d2 : T.ds.length ≤ 100
  dA : Asc T.ds
  dB : ∀ i, i < T.ds.length → 1 ≤ T.ds.getD i 0 ∧ T.ds.getD i 0 ≤ 2592000
  p1 : 1 ≤ T.ps.length
  p2 : T.ps.length ≤ 20
  pA : Asc T.ps
  pB : ∀ i, i < T.ps.length → 1 ≤ T.ps.getD i 0 ∧ T.ps.getD i 0 ≤ 10000
  rl : T.rows.length = T.ps.length
  rw : ∀ i, i < T.ps.length → (T.rows.getD i []).length = T.ds.length
  cB : ∀ i k, i < T.ps.length → k < T.ds.length → 0 ≤ T.cell i k ∧ T.cell i k ≤ 4194304
  cx : ∀ i, i < T.ps.length → Mon T.ds.length (T.cell i)
  cy : ∀ k, k < T.ds.length → Mon T.ps.length (fun i => T.cell i k)
theorem okA_iff {l : List Int} {most : Int} {i : Nat} : okA l most i = true ↔ 1 ≤ l.getD i 0 ∧ l.getD i 0 ≤ most ∧ (i = 0 ∨ l.getD (i - 1) 0 < l.getD i 0) := by simp [okA]
theorem all_range {n : Nat} {p : Nat → Bool} : (List.range n).all p = true ↔ ∀ i, i < n → p i = true := by simp [List.all_eq_true]
theorem ascB_of {l : List Int} {count most : Int} (h : ascB l count most = true) : 1 ≤ l.length ∧ (l.length : Int) ≤ count ∧ Asc l ∧ ∀ i, i < l.length → 1 ≤ l.getD i 0 ∧ l.getD i 0 ≤ most := by
  simp only [ascB, Bool.and_eq_true, all_range, decide_eq_true_eq] at h
  refine ⟨h.2.1, h.2.2, fun i hi => ?_, fun i hi => ?_⟩
  · have := (okA_iff.1 (h.1 (i + 1) hi)).2.2
    simp only [Nat.add_one_sub_one] at this
    omega
  · have := okA_iff.1 (h.1 i hi)
    omega
theorem of_vT {T : Tab} (h : vT T = true) : VT T := by
  simp only [vT, Bool.and_eq_true, all_range, decide_eq_true_eq] at h
  obtain ⟨h1, h2, h3, h4⟩ := h
  obtain ⟨a1, a2, a3, a4⟩ := ascB_of h1
  obtain ⟨b1, b2, b3, b4⟩ := ascB_of h2
  have r : ∀ i, i < T.ps.length → (T.rows.getD i []).length = T.ds.length ∧ ∀ k, k < T.ds.length → 0 ≤ T.cell i k ∧ T.cell i k ≤ 4194304 ∧ (k = 0 ∨ T.cell i (k - 1) ≤ T.cell i k) ∧ (i = 0 ∨ T.cell (i - 1) k ≤ T.cell i k) := fun i hi => by
    have := h4 i (by omega)
    simp only [okR, Bool.and_eq_true, all_range, decide_eq_true_eq, okC] at this
    exact this
  refine ⟨a1, by omega, a3, a4, b1, by omega, b3, b4, h3, fun i hi => (r i hi).1, fun i k hi hk => ?_, fun i hi => Mon.of_step fun k hk => ?_, fun k hk => Mon.of_step fun i hi => ?_⟩
  · have := (r i hi).2 k hk; omega
  · have := ((r i hi).2 (k + 1) hk).2.2.1
    simp only [Nat.add_one_sub_one] at this
    omega
  · have := ((r (i + 1) hi).2 k hk).2.2.2
    simp only [Nat.add_one_sub_one] at this
    omega

/-- the depth at a duration and a period: numerator and denominator -/
def nT (T : Tab) (x y : Int) : Int := (plc T.ps y).val fun j => (plc T.ds x).val (T.cell j)
def dT (T : Tab) (x y : Int) : Int := (plc T.ds x).whole * (plc T.ps y).whole
def loT (T : Tab) (x y : Int) : Int := nT T x y / dT T x y
def hiT (T : Tab) (x y : Int) : Int := cdiv (nT T x y) (dT T x y)
def inT (T : Tab) (x y : Int) : Prop := inL T.ds x = true ∧ inL T.ps y = true
theorem VT.px {T : Tab} (v : VT T) {x : Int} (h : inL T.ds x = true) : IsPl T.ds x (plc T.ds x) := plc_is v.dA v.d1 (inL_iff.1 h).1 (inL_iff.1 h).2
theorem VT.py {T : Tab} (v : VT T) {y : Int} (h : inL T.ps y = true) : IsPl T.ps y (plc T.ps y) := plc_is v.pA v.p1 (inL_iff.1 h).1 (inL_iff.1 h).2
theorem VT.wx {T : Tab} (v : VT T) {x : Int} (h : inL T.ds x = true) : 0 < (plc T.ds x).whole ∧ (plc T.ds x).whole ≤ 2592000 := by
  have p := v.px h
  have b := p.bd
  refine ⟨b.2.2.2.2.1, ?_⟩
  obtain ⟨h1, ⟨_, _, c, _⟩ | ⟨a, _, _, d, e⟩⟩ := p
  · omega
  · have := v.dB _ h1
    have := v.dB _ b.2.2.2.1
    omega
theorem VT.wy {T : Tab} (v : VT T) {y : Int} (h : inL T.ps y = true) : 0 < (plc T.ps y).whole ∧ (plc T.ps y).whole ≤ 10000 := by
  have p := v.py h
  have b := p.bd
  refine ⟨b.2.2.2.2.1, ?_⟩
  obtain ⟨h1, ⟨_, _, c, _⟩ | ⟨a, _, _, d, e⟩⟩ := p
  · omega
  · have := v.pB _ h1
    have := v.pB _ b.2.2.2.1
    omega
theorem VT.row_bd {T : Tab} (v : VT T) {x : Int} (h : inL T.ds x = true) {j : Nat} (hj : j < T.ps.length) : 0 ≤ (plc T.ds x).val (T.cell j) ∧ (plc T.ds x).val (T.cell j) ≤ 4194304 * (plc T.ds x).whole := by
  have p := v.px h
  have b := p.bd
  have w := val_bd p (v.cx j hj)
  have c0 := v.cB j _ hj b.2.2.2.1
  have c1 := v.cB j _ hj p.1
  have m0 := Int.mul_nonneg c0.1 (show 0 ≤ (plc T.ds x).whole by omega)
  have m1 := Int.mul_le_mul_of_nonneg_right c1.2 (show 0 ≤ (plc T.ds x).whole by omega)
  omega
theorem VT.row_mon {T : Tab} (v : VT T) {x : Int} (h : inL T.ds x = true) : Mon T.ps.length fun j => (plc T.ds x).val (T.cell j) := fun i j hij hj => by
  have p := v.px h
  have b := p.bd
  exact val_le b.1 (by omega) (v.cy _ b.2.2.2.1 i j hij hj) (v.cy _ p.1 i j hij hj)
theorem VT.col_bd {T : Tab} (v : VT T) {y : Int} (h : inL T.ps y = true) {k : Nat} (hk : k < T.ds.length) : 0 ≤ (plc T.ps y).val (fun j => T.cell j k) ∧ (plc T.ps y).val (fun j => T.cell j k) ≤ 4194304 * (plc T.ps y).whole := by
  have p := v.py h
  have b := p.bd
  have w := val_bd p (v.cy k hk)
  have c0 := v.cB _ k b.2.2.2.1 hk
  have c1 := v.cB _ k p.1 hk
  have m0 := Int.mul_nonneg c0.1 (show 0 ≤ (plc T.ps y).whole by omega)
  have m1 := Int.mul_le_mul_of_nonneg_right c1.2 (show 0 ≤ (plc T.ps y).whole by omega)
  omega
theorem VT.col_mon {T : Tab} (v : VT T) {y : Int} (h : inL T.ps y = true) : Mon T.ds.length fun k => (plc T.ps y).val (fun j => T.cell j k) := fun i j hij hj => by
  have p := v.py h
  have b := p.bd
  exact val_le b.1 (by omega) (v.cx _ b.2.2.2.1 i j hij hj) (v.cx _ p.1 i j hij hj)
theorem nT_bd {T : Tab} (v : VT T) {x y : Int} (h : inT T x y) : 0 ≤ nT T x y ∧ nT T x y ≤ 4194304 * dT T x y ∧ 0 < dT T x y ∧ dT T x y ≤ 25920000000 := by
  have wx := v.wx h.1
  have wy := v.wy h.2
  have p := v.py h.2
  have b := p.bd
  have w := val_bd p (v.row_mon h.1)
  have c0 := v.row_bd h.1 b.2.2.2.1
  have c1 := v.row_bd h.1 p.1
  have m0 := Int.mul_nonneg c0.1 (show 0 ≤ (plc T.ps y).whole by omega)
  have m1 := Int.mul_le_mul_of_nonneg_right c1.2 (show 0 ≤ (plc T.ps y).whole by omega)
  have d0 := Int.mul_pos wx.1 wy.1
  have d1 : (plc T.ds x).whole * (plc T.ps y).whole ≤ 2592000 * 10000 := Int.mul_le_mul wx.2 wy.2 (by omega) (by omega)
  unfold nT dT
  refine ⟨by omega, ?_, d0, by omega⟩
  have : 4194304 * (plc T.ds x).whole * (plc T.ps y).whole = 4194304 * ((plc T.ds x).whole * (plc T.ps y).whole) := by grind
  omega
theorem nT_mono {T : Tab} (v : VT T) {x y x' y' : Int} (h : inT T x y) (h' : inT T x' y') (hx : x ≤ x') (hy : y ≤ y') : nT T x y * dT T x' y' ≤ nT T x' y' * dT T x y := by
  have wx := v.wx h.1
  have wx' := v.wx h'.1
  have wy := v.wy h.2
  have wy' := v.wy h'.2
  have bx := (v.px h.1).bd
  have py := v.py h.2
  have bp := py.bd
  -- along the durations
  have s1 : nT T x y * (plc T.ds x').whole ≤ nT T x' y * (plc T.ds x).whole := by
    unfold nT
    rw [← val_mul, ← val_mul]
    exact val_le bp.1 (by omega) (val_mono v.dA (v.px h.1) (v.px h'.1) (v.cx _ bp.2.2.2.1) hx) (val_mono v.dA (v.px h.1) (v.px h'.1) (v.cx _ py.1) hx)
  -- along the periods
  have s2 : nT T x' y * (plc T.ps y').whole ≤ nT T x' y' * (plc T.ps y).whole := val_mono v.pA py (v.py h'.2) (v.row_mon h'.1) hy
  have t1 := Int.mul_le_mul_of_nonneg_right s1 (show 0 ≤ (plc T.ps y').whole by omega)
  have t2 := Int.mul_le_mul_of_nonneg_right s2 (show 0 ≤ (plc T.ds x).whole by omega)
  unfold dT
  grind
theorem loT_mono {T : Tab} (v : VT T) {x y x' y' : Int} (h : inT T x y) (h' : inT T x' y') (hx : x ≤ x') (hy : y ≤ y') : loT T x y ≤ loT T x' y' ∧ hiT T x y ≤ hiT T x' y' :=
  ⟨fdiv_le (nT_bd v h).2.2.1 (nT_bd v h').2.2.1 (nT_mono v h h' hx hy), cdiv_le (nT_bd v h).2.2.1 (nT_bd v h').2.2.1 (nT_mono v h h' hx hy)⟩
theorem lohi {T : Tab} (v : VT T) {x y : Int} (h : inT T x y) : loT T x y ≤ hiT T x y ∧ hiT T x y ≤ loT T x y + 1 ∧ 0 ≤ loT T x y ∧ hiT T x y ≤ 4194304 := by
  have b := nT_bd v h
  have f := fc_le (n := nT T x y) b.2.2.1
  refine ⟨f.1, f.2, Int.ediv_nonneg b.1 (by omega), ?_⟩
  exact (cdiv_iff b.2.2.1).2 b.2.1
theorem in_at {T : Tab} (v : VT T) {i k : Nat} (hi : i < T.ds.length) (hk : k < T.ps.length) : inT T (T.ds.getD i 0) (T.ps.getD k 0) :=
  ⟨inL_iff.2 ⟨v.dA.le (Nat.zero_le _) hi, v.dA.le (by omega) (by omega)⟩, inL_iff.2 ⟨v.pA.le (Nat.zero_le _) hk, v.pA.le (by omega) (by omega)⟩⟩
theorem at_place {T : Tab} (v : VT T) {i k : Nat} (hi : i < T.ds.length) (hk : k < T.ps.length) : loT T (T.ds.getD i 0) (T.ps.getD k 0) = T.cell k i ∧ hiT T (T.ds.getD i 0) (T.ps.getD k 0) = T.cell k i := by
  unfold loT hiT nT dT
  rw [plc_at v.dA hi, plc_at v.pA hk]
  simp [Pl.val, cdiv]

/-- the lines of a table: along the durations, and along the periods -/
theorem VT.lineX {T : Tab} (v : VT T) {y : Int} (h : inL T.ps y = true) : Line T.ds (fun k => (plc T.ps y).val (fun j => T.cell j k)) (plc T.ps y).whole := ⟨v.dA, v.d1, v.col_mon h, (v.wy h).1⟩
theorem VT.lineY {T : Tab} (v : VT T) {x : Int} (h : inL T.ds x = true) : Line T.ps (fun j => (plc T.ds x).val (T.cell j)) (plc T.ds x).whole := ⟨v.pA, v.p1, v.row_mon h, (v.wx h).1⟩
theorem lineX_lo (T : Tab) (x y : Int) : lvLo T.ds (fun k => (plc T.ps y).val (fun j => T.cell j k)) (plc T.ps y).whole x = loT T x y ∧ lvHi T.ds (fun k => (plc T.ps y).val (fun j => T.cell j k)) (plc T.ps y).whole x = hiT T x y := by
  unfold lvLo lvHi loT hiT nT dT
  rw [val_comm]; exact ⟨rfl, rfl⟩
theorem lineY_lo (T : Tab) (x y : Int) : lvLo T.ps (fun j => (plc T.ds x).val (T.cell j)) (plc T.ds x).whole y = loT T x y ∧ lvHi T.ps (fun j => (plc T.ds x).val (T.cell j)) (plc T.ds x).whole y = hiT T x y := by
  unfold lvLo lvHi loT hiT nT dT
  rw [Int.mul_comm]; exact ⟨rfl, rfl⟩
end Go.Proofs.YtnhimgabcljahaaGreatDoor
