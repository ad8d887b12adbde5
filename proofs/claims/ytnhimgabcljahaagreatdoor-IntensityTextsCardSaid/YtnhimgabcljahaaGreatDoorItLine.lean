/- The least number at which a line through points is at least a value, said of lists. -/
import Derived.Test.YtnhimgabcljahaaGreatDoorItPlain
namespace Go.Proofs.YtnhimgabcljahaaGreatDoor
open Go.RowKit

/-- the line through the points (l, g) at m, times whole: rounded down and up -/
def lvLo (l : List Int) (g : Nat → Int) (wh m : Int) : Int := (plc l m).val g / ((plc l m).whole * wh)
def lvHi (l : List Int) (g : Nat → Int) (wh m : Int) : Int := cdiv ((plc l m).val g) ((plc l m).whole * wh)
structure Line (l : List Int) (g : Nat → Int) (wh : Int) : Prop where
  asc : Asc l
  pos : 1 ≤ l.length
  mon : Mon l.length g
  wpos : 0 < wh
theorem Line.is {l : List Int} {g : Nat → Int} {wh : Int} (h : Line l g wh) {m : Int} (h1 : l.getD 0 0 ≤ m) (h2 : m ≤ l.getD (l.length - 1) 0) : IsPl l m (plc l m) := plc_is h.asc h.pos h1 h2
theorem Line.mono {l : List Int} {g : Nat → Int} {wh : Int} (h : Line l g wh) {m k : Int} (h1 : l.getD 0 0 ≤ m) (hmk : m ≤ k) (h2 : k ≤ l.getD (l.length - 1) 0) : lvLo l g wh m ≤ lvLo l g wh k := by
  have p := h.is h1 (by omega)
  have q := h.is (m := k) (by omega) h2
  have b := p.bd
  have b' := q.bd
  refine fdiv_le (Int.mul_pos b.2.2.2.2.1 h.wpos) (Int.mul_pos b'.2.2.2.2.1 h.wpos) ?_
  have v := val_mono h.asc p q h.mon hmk
  have := Int.mul_le_mul_of_nonneg_right v (show 0 ≤ wh by have := h.wpos; omega)
  grind
theorem Line.at_ {l : List Int} {g : Nat → Int} {wh : Int} (h : Line l g wh) {k : Nat} (hk : k < l.length) : lvLo l g wh (l.getD k 0) = g k / wh ∧ lvHi l g wh (l.getD k 0) = cdiv (g k) wh := by
  unfold lvLo lvHi
  rw [plc_at h.asc hk]
  simp [Pl.val]
/-- (lo, hi) is the span of the least number at which the line is at least v -/
def Fnd (l : List Int) (g : Nat → Int) (wh v lo hi : Int) : Prop :=
  l.getD 0 0 ≤ hi ∧ hi ≤ l.getD (l.length - 1) 0 ∧ v ≤ lvLo l g wh hi ∧ (∀ m, l.getD 0 0 ≤ m → m < hi → lvLo l g wh m < v) ∧
    lo = if hi = l.getD 0 0 ∨ (lvLo l g wh hi = v ∧ lvHi l g wh hi = v) then hi else hi - 1
theorem Fnd.unique {l : List Int} {g : Nat → Int} {wh v lo hi lo' hi' : Int} (h : Fnd l g wh v lo hi) (k : Fnd l g wh v lo' hi') : lo = lo' ∧ hi = hi' := by
  obtain ⟨h1, h2, h3, h4, h5⟩ := h
  obtain ⟨k1, k2, k3, k4, k5⟩ := k
  have e : hi = hi' := by
    rcases Int.lt_trichotomy hi hi' with s | s | s
    · have := k4 hi h1 s; omega
    · exact s
    · have := h4 hi' k1 s; omega
  subst e
  exact ⟨by rw [h5, k5], rfl⟩
/-- there is none -/
def NoF (l : List Int) (g : Nat → Int) (wh v : Int) : Prop := lvLo l g wh (l.getD (l.length - 1) 0) < v
theorem NoF.not {l : List Int} {g : Nat → Int} {wh v lo hi : Int} (hl : Line l g wh) (h : NoF l g wh v) (k : Fnd l g wh v lo hi) : False := by
  obtain ⟨k1, k2, k3, k4, k5⟩ := k
  have := hl.mono k1 k2 (Int.le_refl _)
  unfold NoF at h
  omega
theorem fnd_low {l : List Int} {g : Nat → Int} {wh v : Int} (hl : Line l g wh) (hg : ∀ i, i < l.length → 0 ≤ g i) (hv : v ≤ 0) : Fnd l g wh v (l.getD 0 0) (l.getD 0 0) := by
  have a := hl.asc.le (i := 0) (j := l.length - 1) (Nat.zero_le _) (by have := hl.pos; omega)
  have e := (hl.at_ (k := 0) (by have := hl.pos; omega)).1
  have p := Int.ediv_nonneg (hg 0 (by have := hl.pos; omega)) (show 0 ≤ wh by have := hl.wpos; omega)
  exact ⟨Int.le_refl _, a, by rw [e]; omega, fun m h1 h2 => by omega, by rw [if_pos (.inl rfl)]⟩
theorem fnd_high {l : List Int} {g : Nat → Int} {wh v M : Int} (hl : Line l g wh) (hg : ∀ i, i < l.length → g i ≤ M * wh) (hv : M < v) : NoF l g wh v := by
  unfold NoF
  rw [(hl.at_ (k := l.length - 1) (by have := hl.pos; omega)).1]
  have := hg (l.length - 1) (by have := hl.pos; omega)
  have q : g (l.length - 1) / wh ≤ M := by
    have := Int.ediv_le_ediv hl.wpos this
    rw [Int.mul_ediv_cancel _ (by have := hl.wpos; omega)] at this
    exact this
  omega
theorem lt_of_g {l : List Int} {g : Nat → Int} {wh v : Int} (hl : Line l g wh) {k : Nat} (hk : k < l.length) (h : g k < v * wh) {m : Int} (h1 : l.getD 0 0 ≤ m) (h2 : m ≤ l.getD k 0) : lvLo l g wh m < v := by
  have a := hl.asc.le (i := k) (j := l.length - 1) (by omega) (by omega)
  have := hl.mono h1 h2 a
  rw [(hl.at_ hk).1] at this
  have q : g k / wh < v := (Int.ediv_lt_iff_lt_mul hl.wpos).2 h
  omega
theorem fnd_none {l : List Int} {g : Nat → Int} {wh v : Int} (hl : Line l g wh) (h : ∀ i, i < l.length → g i < v * wh) : NoF l g wh v := by
  have hp := hl.pos
  exact lt_of_g hl (k := l.length - 1) (by omega) (h _ (by omega)) (hl.asc.le (Nat.zero_le _) (by omega)) (Int.le_refl _)
theorem fnd_first {l : List Int} {g : Nat → Int} {wh v : Int} (hl : Line l g wh) (h : v * wh ≤ g 0) : Fnd l g wh v (l.getD 0 0) (l.getD 0 0) := by
  have hp := hl.pos
  have a := hl.asc.le (i := 0) (j := l.length - 1) (Nat.zero_le _) (by omega)
  refine ⟨Int.le_refl _, a, ?_, fun m h1 h2 => by omega, by rw [if_pos (.inl rfl)]⟩
  rw [(hl.at_ (k := 0) (by omega)).1]
  exact (Int.le_ediv_iff_mul_le hl.wpos).2 h
/-- between two points: the value that is reached -/
theorem lv_between {l : List Int} {g : Nat → Int} {wh : Int} (hl : Line l g wh) {k : Nat} (hk : k + 1 < l.length) {m : Int} (h1 : l.getD k 0 < m) (h2 : m < l.getD (k + 1) 0) :
    plc l m = ⟨k, k + 1, m - l.getD k 0, l.getD (k + 1) 0 - l.getD k 0⟩  := by
  have h : IsPl l m (⟨k, k + 1, m - l.getD k 0, l.getD (k + 1) 0 - l.getD k 0⟩ : Pl) := ⟨hk, Or.inr ⟨Eq.refl _, h1, h2, Eq.refl _, Eq.refl _⟩⟩
  exact (plc_eq hl.asc hl.pos h).symm
theorem fnd_at {l : List Int} {g : Nat → Int} {wh v : Int} (hl : Line l g wh) {k : Nat} (hk : k + 1 < l.length) (h0 : g k < v * wh) (h : g (k + 1) = v * wh) : Fnd l g wh v (l.getD (k + 1) 0) (l.getD (k + 1) 0) := by
  have a := hl.asc.le (i := k + 1) (j := l.length - 1) (by omega) (by omega)
  have b := hl.asc.le (i := 0) (j := k + 1) (Nat.zero_le _) hk
  have c := hl.asc k hk
  obtain ⟨e1, e2⟩ := hl.at_ hk
  rw [h] at e1 e2
  have q := (fc_eq (n := v * wh) (q := v) hl.wpos).2 rfl
  refine ⟨b, a, by rw [e1, q.1]; exact Int.le_refl _, fun m h1 h2 => ?_, by rw [e1, e2, if_pos (.inr q)]⟩
  by_cases s : m ≤ l.getD k 0
  · exact lt_of_g hl (by omega) h0 h1 s
  · unfold lvLo
    rw [lv_between hl hk (by omega) h2]
    rw [Int.ediv_lt_iff_lt_mul (Int.mul_pos (by simp only; omega) hl.wpos)]
    simp only [Pl.val]
    have d : 0 < (l.getD (k + 1) 0 - m) * (v * wh - g k) := Int.mul_pos (by omega) (by omega)
    have t : v * ((l.getD (k + 1) 0 - l.getD k 0) * wh) - ((l.getD (k + 1) 0 - l.getD k 0 - (m - l.getD k 0)) * g k + (m - l.getD k 0) * (v * wh)) = (l.getD (k + 1) 0 - m) * (v * wh - g k) := by grind
    rw [h]
    omega
theorem fnd_in {l : List Int} {g : Nat → Int} {wh v : Int} (hl : Line l g wh) {k : Nat} (hk : k + 1 < l.length) (h0 : g k < v * wh) (h : v * wh < g (k + 1)) :
    Fnd l g wh v (l.getD k 0 + (v * wh - g k) * (l.getD (k + 1) 0 - l.getD k 0) / (g (k + 1) - g k)) (l.getD k 0 + cdiv ((v * wh - g k) * (l.getD (k + 1) 0 - l.getD k 0)) (g (k + 1) - g k)) := by
  have a := hl.asc.le (i := k + 1) (j := l.length - 1) (by omega) (by omega)
  have b := hl.asc.le (i := 0) (j := k) (Nat.zero_le _) (by omega)
  have c := hl.asc k hk
  have wp := hl.wpos
  generalize hD : l.getD (k + 1) 0 - l.getD k 0 = D at *
  generalize hC : g (k + 1) - g k = C at *
  generalize hA : v * wh - g k = A at *
  have hA0 : 0 < A := by omega
  have hAC : A < C := by omega
  have hD0 : 0 < D := by omega
  have hAD : 0 < A * D := Int.mul_pos hA0 hD0
  -- the number that is reached, counted from the first of both points
  have r1 : 1 ≤ cdiv (A * D) C := by
    rcases Int.lt_or_le (cdiv (A * D) C) 1 with s | s
    · have := (cdiv_iff (n := A * D) (d := C) (q := 0) (by omega)).1 (by omega); omega
    · exact s
  have r2 : cdiv (A * D) C ≤ D := by
    rw [cdiv_iff (by omega)]
    have : A * D ≤ C * D := Int.mul_le_mul_of_nonneg_right (by omega) (by omega)
    rw [Int.mul_comm D C]; exact this
  have fc := fc_le (n := A * D) (d := C) (by omega)
  -- the value at a number between both points
  have val : ∀ ρ, 0 < ρ → ρ < D → (plc l (l.getD k 0 + ρ)).val g = D * g k + ρ * C ∧ (plc l (l.getD k 0 + ρ)).whole = D := fun ρ h1 h2 => by
    rw [lv_between hl hk (by omega) (by omega)]
    simp only [Pl.val]
    refine ⟨?_, by omega⟩
    rw [hD, show l.getD k 0 + ρ - l.getD k 0 = ρ by omega, show g (k + 1) = g k + C by omega]
    grind
  have key : ∀ ρ, 0 < ρ → ρ < D → (v ≤ lvLo l g wh (l.getD k 0 + ρ) ↔ A * D ≤ ρ * C) := fun ρ h1 h2 => by
    obtain ⟨e1, e2⟩ := val ρ h1 h2
    unfold lvLo
    rw [e1, e2, Int.le_ediv_iff_mul_le (Int.mul_pos hD0 wp)]
    have t : v * (D * wh) - D * g k = A * D := by rw [← hA]; grind
    constructor <;> intro _ <;> omega
  have top : v ≤ lvLo l g wh (l.getD (k + 1) 0) := by
    rw [(hl.at_ hk).1]; exact (Int.le_ediv_iff_mul_le wp).2 (by omega)
  have ex : (lvLo l g wh (l.getD k 0 + cdiv (A * D) C) = v ∧ lvHi l g wh (l.getD k 0 + cdiv (A * D) C) = v) ↔ A * D = cdiv (A * D) C * C := by
    by_cases e : cdiv (A * D) C = D
    · rw [e, show l.getD k 0 + D = l.getD (k + 1) 0 by omega, (hl.at_ hk).1, (hl.at_ hk).2, fc_eq wp]
      have : A * D < D * C := by rw [Int.mul_comm D C]; exact Int.mul_lt_mul_of_pos_right hAC hD0
      constructor <;> intro _ <;> omega
    · obtain ⟨e1, e2⟩ := val (cdiv (A * D) C) (by omega) (by omega)
      unfold lvLo lvHi
      rw [e1, e2, fc_eq (Int.mul_pos hD0 wp)]
      have t : v * (D * wh) - D * g k = A * D := by rw [← hA]; grind
      constructor <;> intro _ <;> omega
  have hlo : ∀ m, l.getD 0 0 ≤ m → m < l.getD k 0 + cdiv (A * D) C → lvLo l g wh m < v := fun m h1 h2 => by
    by_cases s : m ≤ l.getD k 0
    · exact lt_of_g hl (by omega) h0 h1 s
    · have ks := key (m - l.getD k 0) (by omega) (by omega)
      rw [show l.getD k 0 + (m - l.getD k 0) = m by omega] at ks
      rcases Int.lt_or_le (lvLo l g wh m) v with q | q
      · exact q
      · have := (cdiv_iff (n := A * D) (d := C) (by omega)).2 (ks.1 q)
        omega
  refine ⟨by omega, by omega, ?_, hlo, ?_⟩
  · by_cases e : cdiv (A * D) C = D
    · rw [e, show l.getD k 0 + D = l.getD (k + 1) 0 by omega]; exact top
    · exact (key _ (by omega) (by omega)).2 ((cdiv_iff (by omega)).1 (Int.le_refl _))
  · have n0 : ¬ l.getD k 0 + cdiv (A * D) C = l.getD 0 0 := by omega
    by_cases e : A * D = cdiv (A * D) C * C
    · have f : A * D / C = cdiv (A * D) C := ((fc_eq (n := A * D) (d := C) (by omega)).2 e).1
      rw [if_pos (.inr (ex.2 e)), f]
    · rw [if_neg (fun h => h.elim n0 (fun h => e (ex.1 h)))]
      have : ¬ A * D / C = cdiv (A * D) C := fun f => e (by
        have := (fc_eq (n := A * D) (d := C) (q := cdiv (A * D) C) (by omega)).1 ⟨f, rfl⟩
        exact this)
      omega
end Go.Proofs.YtnhimgabcljahaaGreatDoor
