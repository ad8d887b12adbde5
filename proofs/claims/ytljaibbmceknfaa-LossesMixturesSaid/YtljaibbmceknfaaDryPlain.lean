/- Drying, said of numbers: a store without rain becomes empty, step by step; how many steps it takes. -/
import Derived.Test.YtljaibbmceknfaaLossLaw
namespace Go.Proofs.Ytljaibbmceknfaa
open Go.RowKit

def dstep (c : Cls) (t : Int) (s : Sto) : Sto := ⟨lessI s.wt (c.we * t) 86400, lessI s.he (s.he * c.dr * t) 3600000⟩
def diter (c : Cls) (t : Int) : Nat → Sto → Sto
  | 0, s => s
  | n + 1, s => dstep c t (diter c t n s)
/-- n is the number of steps after which the store is empty, and not before -/
def IsDry (c : Cls) (t : Int) (s : Sto) (n : Nat) : Prop := diter c t n s = Sto.zero ∧ ∀ i, i < n → diter c t i s ≠ Sto.zero
theorem IsDry.unique {c : Cls} {t : Int} {s : Sto} {n m : Nat} (h : IsDry c t s n) (k : IsDry c t s m) : n = m := by
  rcases Nat.lt_trichotomy n m with a | a | a
  · exact absurd h.1 (k.2 n a)
  · exact a
  · exact absurd k.1 (h.2 m a)
theorem Sto.ext_ {a b : Sto} (h : a.wt = b.wt) (k : a.he = b.he) : a = b := by cases a; cases b; simp only at h k; rw [h, k]
theorem zero_iff (s : Sto) : s = Sto.zero ↔ s.wt = 0 ∧ s.he = 0 := ⟨fun h => by rw [h]; exact ⟨rfl, rfl⟩, fun h => Sto.ext_ h.1 h.2⟩
theorem step0 {c : Cls} {s : Sto} {t : Int} (h : HoldsP c s) : stepS c s 0 t = dstep c t s := by
  have h1 := wetBy_bd h (Int.le_refl 0)
  have h2 := heldBy_bd h (Int.le_refl 0)
  have e1 : wetBy c s 0 = 0 := by omega
  have e2 : heldBy c s 0 = 0 := by omega
  simp only [stepS, stepWt, stepHe, e1, e2, Int.add_zero, if_true, dstep]
theorem ceil_pos {n d : Int} (hn : 1 ≤ n) (hd : 0 < d) : 1 ≤ (n + d - 1) / d := by
  have := (Int.le_ediv_iff_mul_le (a := 1) (b := n + d - 1) hd).2 (by omega)
  omega
theorem dstep_holds {c : Cls} {s : Sto} {t : Int} (hr : RightP c) (h : HoldsP c s) (ht : 0 ≤ t) (ht' : t ≤ 86400) : HoldsP c (dstep c t s) := by
  rw [← step0 h]; exact step_holds hr h (Int.le_refl 0) ht ht'
theorem diter_holds {c : Cls} {s : Sto} {t : Int} (hr : RightP c) (h : HoldsP c s) (ht : 0 ≤ t) (ht' : t ≤ 86400) : ∀ n, HoldsP c (diter c t n s)
  | 0 => h
  | n + 1 => dstep_holds hr (diter_holds hr h ht ht' n) ht ht'
/-- a store that is not empty, and whose class drains, loses at least one -/
theorem dstep_less {c : Cls} {s : Sto} {t : Int} (hr : RightP c) (h : HoldsP c s) (ht : 1 ≤ t) (ht' : t ≤ 86400) (hd : s.he = 0 ∨ 1 ≤ c.dr) (hz : s ≠ Sto.zero) :
    0 ≤ (dstep c t s).wt ∧ 0 ≤ (dstep c t s).he ∧ (dstep c t s).wt ≤ s.wt ∧ (dstep c t s).he ≤ s.he ∧ (dstep c t s).wt + (dstep c t s).he < s.wt + s.he := by
  have hb := dstep_holds hr h (by omega) ht'
  have hr' := hr
  unfold RightP at hr'
  unfold HoldsP at h hb
  have m := mul3_bd (a := s.he) (b := c.dr) (t := t) (by omega) (by omega) (by omega) (by omega) (by omega) ht'
  have a1 := lessI_bd (n := s.he) (m := s.he * c.dr * t) (k := 3600000) (by omega) (by omega) (by omega)
  have m5 : 0 ≤ c.we * t := Int.mul_nonneg (by omega) (by omega)
  have a2 := lessI_bd (n := s.wt) (m := c.we * t) (k := 86400) (by omega) (by omega) (by omega)
  refine ⟨hb.1, hb.2.2.1, a2.2, a1.2, ?_⟩
  have hne : ¬ (s.wt = 0 ∧ s.he = 0) := fun e => hz ((zero_iff s).2 e)
  by_cases w0 : s.wt = 0
  · have h1 : 1 ≤ s.he := by omega
    have h2 : 1 ≤ c.dr := by omega
    have h3 : 1 * 1 ≤ s.he * c.dr := Int.mul_le_mul h1 h2 (by omega) (by omega)
    have h4 : 1 * 1 ≤ s.he * c.dr * t := Int.mul_le_mul (by omega) ht (by omega) (by omega)
    have h5 := ceil_pos (n := s.he * c.dr * t) (d := 3600000) (by omega) (by omega)
    have : (dstep c t s).he < s.he := by simp only [dstep, lessI]; omega
    have : (dstep c t s).wt ≤ s.wt := a2.2
    omega
  · have h1 : 1 ≤ s.wt := by omega
    have h4 : 1 * 1 ≤ c.we * t := Int.mul_le_mul (by omega) ht (by omega) (by omega)
    have h5 := ceil_pos (n := c.we * t) (d := 86400) (by omega) (by omega)
    have : (dstep c t s).wt < s.wt := by simp only [dstep, lessI]; omega
    have : (dstep c t s).he ≤ s.he := a1.2
    omega
theorem diter_he0 {c : Cls} {s : Sto} {t : Int} (h : s.he = 0) : ∀ n, (diter c t n s).he = 0
  | 0 => h
  | n + 1 => by
    have e : (diter c t (n + 1) s).he = lessI (diter c t n s).he ((diter c t n s).he * c.dr * t) 3600000 := rfl
    rw [e, diter_he0 h n]
    simp only [lessI, Int.zero_mul]
    omega
/-- what is held goes down by a tenth at least, what wets by a twenty-ninth of the whole -/
def gHe (h : Int) : Int := h - (h + 9) / 10
def uHe : Nat → Int
  | 0 => 1000000
  | n + 1 => gHe (uHe n)
theorem gHe_mono {a b : Int} (h : a ≤ b) : gHe a ≤ gHe b := by unfold gHe; omega
theorem uHe_end : uHe 200 = 0 := by decide +kernel
theorem dstep_tenth {c : Cls} {s : Sto} {t : Int} (hr : RightP c) (h : HoldsP c s) (hd : 360000 ≤ c.dr * t) : (dstep c t s).he ≤ gHe s.he := by
  unfold RightP at hr
  unfold HoldsP at h
  have e : s.he * c.dr * t = s.he * (c.dr * t) := Int.mul_assoc ..
  have h1 : s.he * 360000 ≤ s.he * (c.dr * t) := Int.mul_le_mul_of_nonneg_left hd (by omega)
  have h2 : (s.he * 360000 + 3600000 - 1) / 3600000 ≤ (s.he * c.dr * t + 3600000 - 1) / 3600000 := Int.ediv_le_ediv (by omega) (by omega)
  have h3 : (s.he + 9) / 10 ≤ (s.he * 360000 + 3600000 - 1) / 3600000 := by omega
  simp only [dstep, lessI, gHe]
  omega
theorem diter_u {c : Cls} {s : Sto} {t : Int} (hr : RightP c) (h : HoldsP c s) (ht : 0 ≤ t) (ht' : t ≤ 86400) (hd : 360000 ≤ c.dr * t) : ∀ n, (diter c t n s).he ≤ uHe n
  | 0 => by unfold RightP at hr; unfold HoldsP at h; show s.he ≤ 1000000; omega
  | n + 1 => by
    have i := diter_u hr h ht ht' hd n
    have := dstep_tenth hr (diter_holds hr h ht ht' n) hd
    have k := gHe_mono i
    show (dstep c t (diter c t n s)).he ≤ gHe (uHe n)
    omega
theorem diter_w {c : Cls} {s : Sto} {t : Int} (hr : RightP c) (h : HoldsP c s) (ht : 3000 ≤ t) (ht' : t ≤ 86400) : ∀ n, (diter c t n s).wt ≤ max 0 (s.wt - n * ((c.we * t + 86399) / 86400))
  | 0 => by unfold HoldsP at h; simp [diter]; omega
  | n + 1 => by
    have i := diter_w hr h ht ht' n
    have hh := diter_holds hr h (by omega) ht' n
    unfold HoldsP at hh
    have e : (diter c t (n + 1) s).wt = max 0 ((diter c t n s).wt - (c.we * t + 86400 - 1) / 86400) := rfl
    have e2 : (c.we * t + 86400 - 1) = c.we * t + 86399 := by omega
    have e3 : ((n + 1 : Nat) : Int) * ((c.we * t + 86399) / 86400) = n * ((c.we * t + 86399) / 86400) + (c.we * t + 86399) / 86400 := by rw [Int.natCast_add, Int.add_mul]; simp
    have e4 : 0 ≤ (c.we * t + 86399) / 86400 := by
      have : 0 ≤ c.we * t := Int.mul_nonneg (by unfold RightP at hr; omega) (by omega)
      omega
    rw [e, e2, e3]
    omega
theorem dry_wet {c : Cls} {s : Sto} {t : Int} (hr : RightP c) (h : HoldsP c s) (ht : 3000 ≤ t) (ht' : t ≤ 86400) (n : Nat) (hn : 29 ≤ n) : (diter c t n s).wt = 0 := by
  have a := diter_w hr h ht ht' n
  have hh := diter_holds hr h (by omega) ht' n
  unfold HoldsP at hh h
  unfold RightP at hr
  have m1 : c.we * 3000 ≤ c.we * t := Int.mul_le_mul_of_nonneg_left ht (by omega)
  have m2 : c.we ≤ 29 * ((c.we * t + 86399) / 86400) := by omega
  have m3 : (29 : Int) * ((c.we * t + 86399) / 86400) ≤ n * ((c.we * t + 86399) / 86400) := Int.mul_le_mul_of_nonneg_right (by omega) (by omega)
  omega
theorem dry_400 {c : Cls} {s : Sto} {t : Int} {n : Nat} (hr : RightP c) (h : HoldsP c s) (ht : 3000 ≤ t) (ht' : t ≤ 86400) (hd : s.he = 0 ∨ 360000 ≤ c.dr * t) (k : IsDry c t s n) : n ≤ 400 := by
  rcases Nat.lt_or_ge 400 n with a | a
  · exfalso
    have h1 := dry_wet hr h ht ht' 200 (by omega)
    have h2 : (diter c t 200 s).he = 0 := by
      rcases hd with hd | hd
      · exact diter_he0 hd 200
      · have := diter_u hr h (by omega) ht' hd 200
        rw [uHe_end] at this
        have hh := diter_holds hr h (by omega) ht' 200
        unfold HoldsP at hh
        omega
    exact k.2 200 (by omega) ((zero_iff _).2 ⟨h1, h2⟩)
  · exact a
end Go.Proofs.Ytljaibbmceknfaa
