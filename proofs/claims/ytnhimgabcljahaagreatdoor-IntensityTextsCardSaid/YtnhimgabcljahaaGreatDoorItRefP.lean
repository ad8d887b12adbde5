/- The depth as the reference reckons it is the same number. -/
import Derived.Test.YtnhimgabcljahaaGreatDoorItTab
namespace Go.Proofs.YtnhimgabcljahaaGreatDoor
open Go.RowKit

theorem cnt_iff {l : List Int} (ha : Asc l) {x : Int} {j : Nat} (hj : j < l.length) : l.getD j 0 ≤ x ↔ j < cnt l x := by
  constructor
  · intro h
    rcases Nat.lt_or_ge j (cnt l x) with k | k
    · exact k
    · have := cnt_ge l x (by omega)
      have := ha.le k hj
      omega
  · exact cnt_lt l x j
/-- the index that the reference takes -/
def rpl (l : List Int) (x : Int) : Nat := min (cnt l x - 1) (l.length - 2)
def rfN (l : List Int) (f : Nat → Int) (x : Int) : Int := if l.length = 1 then f 0 else (l.getD (rpl l x + 1) 0 - x) * f (rpl l x) + (x - l.getD (rpl l x) 0) * f (rpl l x + 1)
def rfD (l : List Int) (x : Int) : Int := if l.length = 1 then 1 else l.getD (rpl l x + 1) 0 - l.getD (rpl l x) 0
theorem rfN_mul (l : List Int) (f : Nat → Int) (x c : Int) : rfN l (fun i => f i * c) x = rfN l f x * c := by unfold rfN; split <;> grind
theorem rpl_stop {l : List Int} (ha : Asc l) {x : Int} {i : Nat} (h2 : 2 ≤ l.length) (hi : i ≤ l.length - 2) (h0 : i < cnt l x) (hs : ¬ (i + 2 < l.length ∧ l.getD (i + 1) 0 ≤ x)) : i = rpl l x := by
  unfold rpl
  by_cases e : i + 2 < l.length
  · have : ¬ i + 1 < cnt l x := fun k => hs ⟨e, (cnt_iff ha (by omega)).2 k⟩
    omega
  · omega
theorem rf_parts {l : List Int} (ha : Asc l) {x : Int} (h1 : 1 ≤ l.length) (hx : inL l x = true) (hn : ¬ l.length = 1) : rpl l x + 1 < l.length ∧ l.getD (rpl l x) 0 ≤ x ∧ x ≤ l.getD (rpl l x + 1) 0 := by
  obtain ⟨a, b⟩ := inL_iff.1 hx
  have c0 : 0 < cnt l x := (cnt_iff ha (by omega)).1 a
  have c1 := cnt_le l x
  have r : rpl l x < cnt l x ∧ rpl l x + 1 < l.length := by unfold rpl; omega
  refine ⟨r.2, cnt_lt l x _ r.1, ?_⟩
  by_cases e : cnt l x < l.length
  · have q := cnt_ge l x e
    have s : rpl l x + 1 = cnt l x := by unfold rpl; omega
    rw [s]; omega
  · have s : rpl l x + 1 = l.length - 1 := by unfold rpl; omega
    rw [s]; exact b
theorem rf_eq {l : List Int} (ha : Asc l) {x : Int} (h1 : 1 ≤ l.length) (hx : inL l x = true) (f : Nat → Int) : rfN l f x * (plc l x).whole = (plc l x).val f * rfD l x ∧ 0 < rfD l x := by
  have p := plc_is ha h1 (inL_iff.1 hx).1 (inL_iff.1 hx).2
  by_cases hn : l.length = 1
  · have e : plc l x = ⟨0, 0, 0, 1⟩ := by
      have := inL_iff.1 hx
      rw [hn] at this
      have e : x = l.getD 0 0 := by simp only [Nat.sub_self] at this; omega
      rw [e]; exact plc_at ha (by omega)
    unfold rfN rfD
    rw [e, if_pos hn, if_pos hn]
    simp [Pl.val]
  · obtain ⟨r1, r2, r3⟩ := rf_parts ha h1 hx hn
    have s := ha _ r1
    unfold rfN rfD
    rw [if_neg hn, if_neg hn]
    refine ⟨?_, by omega⟩
    generalize rpl l x = i at *
    by_cases e1 : x = l.getD i 0
    · rw [e1, plc_at ha (by omega)]
      simp only [Pl.val]
      grind
    · by_cases e2 : x = l.getD (i + 1) 0
      · rw [e2, plc_at ha r1]
        simp only [Pl.val]
        grind
      · have h : IsPl l x (⟨i, i + 1, x - l.getD i 0, l.getD (i + 1) 0 - l.getD i 0⟩ : Pl) := ⟨r1, Or.inr ⟨Eq.refl _, by simp only; omega, by simp only; omega, Eq.refl _, Eq.refl _⟩⟩
        rw [← plc_eq ha h1 h]
        simp only [Pl.val]
        grind
def rN (T : Tab) (x y : Int) : Int := rfN T.ps (fun j => rfN T.ds (T.cell j) x) y
def rD (T : Tab) (x y : Int) : Int := rfD T.ds x * rfD T.ps y
theorem rf_frac {T : Tab} (v : VT T) {x y : Int} (h : inT T x y) : rN T x y * dT T x y = nT T x y * rD T x y ∧ 0 < rD T x y := by
  have ex := fun j => (rf_eq v.dA v.d1 h.1 (T.cell j)).1
  have px := (rf_eq v.dA v.d1 h.1 (T.cell 0)).2
  obtain ⟨ey, py⟩ := rf_eq v.pA v.p1 h.2 (fun j => (plc T.ds x).val (T.cell j))
  refine ⟨?_, Int.mul_pos px py⟩
  have s1 : rN T x y * (plc T.ds x).whole = rfN T.ps (fun j => (plc T.ds x).val (T.cell j)) y * rfD T.ds x := by
    unfold rN
    rw [← rfN_mul, ← rfN_mul]
    simp only [ex]
  unfold dT nT rD
  grind
theorem quo_eq {n d m e : Int} (hd : 0 < d) (he : 0 < e) (h : n * e = m * d) : n / d = m / e ∧ cdiv n d = cdiv m e :=
  ⟨Int.le_antisymm (fdiv_le hd he (by omega)) (fdiv_le he hd (by omega)), Int.le_antisymm (cdiv_le hd he (by omega)) (cdiv_le he hd (by omega))⟩
theorem ref_depth {T : Tab} (v : VT T) {x y : Int} (h : inT T x y) : rN T x y / rD T x y = loT T x y ∧ cdiv (rN T x y) (rD T x y) = hiT T x y :=
  quo_eq (rf_frac v h).2 (nT_bd v h).2.2.1 (rf_frac v h).1
theorem rfD_bd {l : List Int} (ha : Asc l) {x : Int} (h1 : 1 ≤ l.length) (hx : inL l x = true) {M : Int} (hM : ∀ i, i < l.length → 1 ≤ l.getD i 0 ∧ l.getD i 0 ≤ M) : 0 < rfD l x ∧ rfD l x ≤ M := by
  refine ⟨(rf_eq ha h1 hx (fun _ => 0)).2, ?_⟩
  unfold rfD
  split
  · have := hM 0 (by omega); omega
  · rename_i hn
    obtain ⟨r1, r2, r3⟩ := rf_parts ha h1 hx hn
    have := hM _ r1
    have := hM (rpl l x) (by omega)
    omega
theorem rfN_bd {l : List Int} (ha : Asc l) {x : Int} (h1 : 1 ≤ l.length) (hx : inL l x = true) {f : Nat → Int} {M : Int} (hf : ∀ i, i < l.length → 0 ≤ f i ∧ f i ≤ M) : 0 ≤ rfN l f x ∧ rfN l f x ≤ M * rfD l x := by
  unfold rfN rfD
  split
  · have := hf 0 (by omega); omega
  · rename_i hn
    obtain ⟨r1, r2, r3⟩ := rf_parts ha h1 hx hn
    have a := hf _ r1
    have b := hf (rpl l x) (by omega)
    have m0 := Int.mul_nonneg (show 0 ≤ l.getD (rpl l x + 1) 0 - x by omega) b.1
    have m1 := Int.mul_nonneg (show 0 ≤ x - l.getD (rpl l x) 0 by omega) a.1
    have m2 := Int.mul_le_mul_of_nonneg_left b.2 (show 0 ≤ l.getD (rpl l x + 1) 0 - x by omega)
    have m3 := Int.mul_le_mul_of_nonneg_left a.2 (show 0 ≤ x - l.getD (rpl l x) 0 by omega)
    have e : M * (l.getD (rpl l x + 1) 0 - l.getD (rpl l x) 0) = (l.getD (rpl l x + 1) 0 - x) * M + (x - l.getD (rpl l x) 0) * M := by grind
    omega
end Go.Proofs.YtnhimgabcljahaaGreatDoor
