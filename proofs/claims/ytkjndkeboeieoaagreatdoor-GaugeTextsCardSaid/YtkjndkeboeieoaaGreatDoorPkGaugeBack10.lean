/- Parts of one proof, joined: Fractions, said of integers: what is made of a numerator and a denominator, which fractions are valid, and that two valid fractions of one value are equal. Shares of a total by weights, said of integers: parts rounded down of the first sums, and their differences. math/bits.Div64 where the high word is 0; it leaves memory as it is. Division of two words by one, half by half, said of natural numbers. -/
import Derived.Test.YtkjndkeboeieoaaGreatDoorPkGaugeBack1
import Derived.Deep.QuietTactic
import Derived.BigQuiet
import Derived.StillTailTactics
import Derived.Deep.RegionHeld3
namespace Go.Proofs.YtkjndkeboeieoaaGreatDoor

structure Fr where
  num : Int
  den : Int
abbrev Fr.val (a : Fr) : Value := .agg #[.int .i64 a.num, .int .i64 a.den]
def Fr.zero : Fr := ⟨0, 0⟩
theorem fr_eq {s t : Fr} (h1 : s.num = t.num) (h2 : s.den = t.den) : s = t := by cases s; cases t; simp only at h1 h2; rw [h1, h2]
theorem fr_eq_iff {s t : Fr} : s = t ↔ s.num = t.num ∧ s.den = t.den := ⟨fun h => by rw [h]; exact ⟨rfl, rfl⟩, fun h => fr_eq h.1 h.2⟩
instance : DecidableEq Fr := fun _ _ => decidable_of_iff' _ fr_eq_iff
def gF (n d : Int) : Nat := Nat.gcd n.natAbs d.natAbs
def inF (a : Fr) : Prop := 1 ≤ a.den ∧ a.den ≤ 1073741824 ∧ -1073741824 ≤ a.num ∧ a.num ≤ 1073741824
instance (a : Fr) : Decidable (inF a) := by unfold inF; exact inferInstance
def vF (a : Fr) : Bool := decide (inF a) && decide (gF a.num a.den = 1)
theorem vF_iff {a : Fr} : vF a = true ↔ inF a ∧ gF a.num a.den = 1 := by simp [vF]
def mkE (n d : Int) : Int := if d = 0 then 16 else if n.natAbs / gF n d ≤ 1073741824 ∧ d.natAbs / gF n d ≤ 1073741824 then 0 else 5
/-- the sign goes to the numerator -/
def mkN (n d : Int) : Int := if (n < 0) ↔ (d < 0) then ((n.natAbs / gF n d : Nat) : Int) else -((n.natAbs / gF n d : Nat) : Int)
def mkF (n d : Int) : Fr := if mkE n d = 0 then ⟨mkN n d, ((d.natAbs / gF n d : Nat) : Int)⟩ else Fr.zero
theorem gF_pos {n d : Int} (h : d ≠ 0) : 0 < gF n d := Nat.gcd_pos_of_pos_right _ (by omega)
theorem mkE_eq {n d : Int} (h : d ≠ 0) : mkE n d = if n.natAbs / gF n d ≤ 1073741824 ∧ d.natAbs / gF n d ≤ 1073741824 then 0 else 5 := by simp [mkE, h]
theorem mkE_zero (n : Int) : mkE n 0 = 16 := by simp [mkE]
theorem mkF_zero (n : Int) : mkF n 0 = Fr.zero := by simp [mkF, mkE]
theorem mkF_bad {n d : Int} (h : mkE n d ≠ 0) : mkF n d = Fr.zero := by simp [mkF, h]
theorem mkE_ok {n d : Int} (h : mkE n d = 0) : d ≠ 0 ∧ n.natAbs / gF n d ≤ 1073741824 ∧ d.natAbs / gF n d ≤ 1073741824 := by
  unfold mkE at h
  split at h
  · omega
  · split at h
    · exact ⟨by assumption, by assumption⟩
    · omega
/-- the greatest common divisor, and the two numbers without it -/
theorem gF_parts {n d : Int} (h : d ≠ 0) : ∃ g q p : Nat, gF n d = g ∧ 0 < g ∧ n.natAbs = q * g ∧ d.natAbs = p * g ∧ 0 < p ∧ Nat.gcd q p = 1 ∧ n.natAbs / gF n d = q ∧ d.natAbs / gF n d = p := by
  have hg := gF_pos (n := n) h
  obtain ⟨q, hq⟩ : gF n d ∣ n.natAbs := Nat.gcd_dvd_left _ _
  obtain ⟨p, hp⟩ : gF n d ∣ d.natAbs := Nat.gcd_dvd_right _ _
  have e1 : n.natAbs / gF n d = q := by rw [hq]; exact Nat.mul_div_cancel_left q hg
  have e2 : d.natAbs / gF n d = p := by rw [hp]; exact Nat.mul_div_cancel_left p hg
  refine ⟨gF n d, q, p, rfl, hg, by rw [hq, Nat.mul_comm], by rw [hp, Nat.mul_comm], ?_, ?_, e1, e2⟩
  · rcases Nat.eq_zero_or_pos p with h0 | h0
    · subst h0; simp at hp; exact absurd hp h
    · exact h0
  · have := Nat.gcd_div_gcd_div_gcd_of_pos_right (n := n.natAbs) (m := d.natAbs) (by omega)
    unfold gF at e1 e2
    rw [e1, e2] at this
    exact this
theorem mk_spec {n d : Int} (h : mkE n d = 0) : vF (mkF n d) = true ∧ (mkF n d).num * d = n * (mkF n d).den ∧ 0 < (mkF n d).den := by
  obtain ⟨h0, h1, h2⟩ := mkE_ok h
  obtain ⟨g, q, p, eg, hg, eq, ep, hp, hc, e1, e2⟩ := gF_parts (n := n) h0
  have eF : mkF n d = ⟨mkN n d, (p : Int)⟩ := by simp only [mkF, h, if_true, e2]
  rw [e1] at h1
  rw [e2] at h2
  rw [eF]
  have hN : (mkN n d).natAbs = q := by unfold mkN; rw [e1]; split <;> omega
  refine ⟨?_, ?_, by simp; omega⟩
  · refine vF_iff.2 ⟨⟨by simp; omega, by simp; omega, by simp; omega, by simp; omega⟩, ?_⟩
    simp only [gF, hN, Int.natAbs_natCast]
    exact hc
  · simp only
    unfold mkN
    rw [e1]
    have k1 : (n.natAbs : Int) = q * g := by rw [eq]; exact Int.natCast_mul _ _
    have k2 : (d.natAbs : Int) = p * g := by rw [ep]; exact Int.natCast_mul _ _
    split
    · rcases Int.lt_or_le n 0 with hn | hn <;> rcases Int.lt_or_le d 0 with hd | hd
      · have a1 : n = -(q * g) := by omega
        have a2 : d = -(p * g) := by omega
        rw [a1, a2]; grind
      · omega
      · omega
      · have a1 : n = q * g := by omega
        have a2 : d = p * g := by omega
        rw [a1, a2]; grind
    · rcases Int.lt_or_le n 0 with hn | hn <;> rcases Int.lt_or_le d 0 with hd | hd
      · omega
      · have a1 : n = -(q * g) := by omega
        have a2 : d = p * g := by omega
        rw [a1, a2]; grind
      · have a1 : n = q * g := by omega
        have a2 : d = -(p * g) := by omega
        rw [a1, a2]; grind
      · omega
theorem mk_of {a : Fr} {n d : Int} (ha : vF a = true) (hd : d ≠ 0) (he : n * a.den = a.num * d) : mkE n d = 0 ∧ mkF n d = a := by
  obtain ⟨⟨b1, b2, b3, b4⟩, hc⟩ := vF_iff.1 ha
  obtain ⟨g, q, p, eg, hg, eq, ep, hp, hq, e1, e2⟩ := gF_parts (n := n) hd
  unfold gF at hc
  have hn : n.natAbs * a.den.natAbs = a.num.natAbs * d.natAbs := by rw [← Int.natAbs_mul, he, Int.natAbs_mul]
  rw [eq, ep] at hn
  have hn2 : q * a.den.natAbs = a.num.natAbs * p := by
    have : g * (q * a.den.natAbs) = g * (a.num.natAbs * p) := by grind
    exact Nat.eq_of_mul_eq_mul_left hg this
  -- p and the denominator divide one another
  have d1 : p ∣ a.den.natAbs := by
    have : p ∣ q * a.den.natAbs := ⟨a.num.natAbs, by rw [hn2, Nat.mul_comm]⟩
    exact Nat.Coprime.dvd_of_dvd_mul_left (by rw [Nat.coprime_iff_gcd_eq_one, Nat.gcd_comm]; exact hq) this
  have d2 : a.den.natAbs ∣ p := by
    have : a.den.natAbs ∣ a.num.natAbs * p := ⟨q, by rw [← hn2, Nat.mul_comm]⟩
    exact Nat.Coprime.dvd_of_dvd_mul_left (by rw [Nat.coprime_iff_gcd_eq_one, Nat.gcd_comm]; exact hc) this
  have ed : p = a.den.natAbs := Nat.dvd_antisymm d1 d2
  have en : q = a.num.natAbs := by
    rw [ed] at hn2
    exact Nat.eq_of_mul_eq_mul_right (by omega) hn2
  have h0 : mkE n d = 0 := by rw [mkE_eq hd, e1, e2, if_pos]; omega
  refine ⟨h0, ?_⟩
  simp only [mkF, h0, if_true, e2]
  refine fr_eq ?_ (by simp only; omega)
  simp only
  unfold mkN
  rw [e1]
  have sgn : (a.num < 0 → ¬ ((n < 0) ↔ (d < 0))) ∧ (0 < a.num → ((n < 0) ↔ (d < 0))) := by
    have hden : 0 < a.den := by omega
    constructor
    · intro hneg hiff
      rcases Int.lt_or_le d 0 with hd' | hd'
      · have hn' : n < 0 := hiff.2 hd'
        have x1 : n * a.den < 0 := Int.mul_neg_of_neg_of_pos hn' hden
        have x2 : 0 < a.num * d := Int.mul_pos_of_neg_of_neg hneg hd'
        omega
      · have hn' : ¬ n < 0 := fun h => by have := hiff.1 h; omega
        have x1 : 0 ≤ n * a.den := Int.mul_nonneg (by omega) (by omega)
        have x2 : a.num * d < 0 := Int.mul_neg_of_neg_of_pos hneg (by omega)
        omega
    · intro hpos
      rcases Int.lt_or_le d 0 with hd' | hd'
      · have x2 : a.num * d < 0 := Int.mul_neg_of_pos_of_neg hpos hd'
        refine ⟨fun _ => hd', fun _ => ?_⟩
        rcases Int.lt_or_le n 0 with hn' | hn'
        · exact hn'
        · have x1 : 0 ≤ n * a.den := Int.mul_nonneg hn' (by omega)
          omega
      · have x2 : 0 < a.num * d := Int.mul_pos hpos (by omega)
        refine ⟨fun hn' => ?_, fun h => by omega⟩
        have x1 : n * a.den < 0 := Int.mul_neg_of_neg_of_pos hn' hden
        omega
  split
  · rename_i hs
    have : ¬ a.num < 0 := fun h => sgn.1 h hs
    omega
  · rename_i hs
    have : ¬ 0 < a.num := fun h => hs (sgn.2 h)
    omega
theorem vF_unique {x y : Fr} (hx : vF x = true) (hy : vF y = true) (h : x.num * y.den = y.num * x.den) : x = y := by
  have b := (vF_iff.1 hx).1.1
  have h1 := (mk_of (n := x.num) (d := x.den) hy (by omega) h).2
  have h2 := (mk_of (n := x.num) (d := x.den) hx (by omega) rfl).2
  rw [← h1, h2]
theorem vF_mk {n d : Int} : vF (mkF n d) = decide (mkE n d = 0) := by
  by_cases h : mkE n d = 0
  · simp [h, (mk_spec h).1]
  · rw [mkF_bad h]; simp [h, vF, inF, Fr.zero]
theorem vF_zero : vF Fr.zero = false := by simp [vF, inF, Fr.zero]
/-- the reference's way to say which fractions are valid -/
theorem vF_ref {a : Fr} (h : inF a) : vF a = decide (mkF a.num a.den = a) := by
  have b := h.1
  by_cases hv : vF a = true
  · rw [hv]; simp [(mk_of hv (by omega) rfl).2]
  · have hv' : vF a = false := by simpa using hv
    rw [hv']
    symm
    simp only [decide_eq_false_iff_not]
    intro e
    by_cases h0 : mkE a.num a.den = 0
    · rw [← e] at hv
      exact hv (mk_spec h0).1
    · rw [mkF_bad h0] at e
      rw [← e] at b
      simp [Fr.zero] at b
def negF (a : Fr) : Fr := ⟨-a.num, a.den⟩
theorem vF_neg (a : Fr) : vF (negF a) = vF a := by
  have : inF (negF a) ↔ inF a := by simp only [inF, negF]; omega
  simp only [vF, gF, negF, Int.natAbs_neg]
  simp only [inF, negF] at *
  congr 1
  exact decide_eq_decide.2 this
def op2F (a b : Fr) (n d : Int) : Fr := if vF a = true ∧ vF b = true then mkF n d else Fr.zero
def op2E (a b : Fr) (n d : Int) : Int := if vF a = true ∧ vF b = true then mkE n d else 1
def addF (a b : Fr) : Fr := op2F a b (a.num * b.den + b.num * a.den) (a.den * b.den)
def addE (a b : Fr) : Int := op2E a b (a.num * b.den + b.num * a.den) (a.den * b.den)
def subF (a b : Fr) : Fr := op2F a b (a.num * b.den - b.num * a.den) (a.den * b.den)
def subE (a b : Fr) : Int := op2E a b (a.num * b.den - b.num * a.den) (a.den * b.den)
def mulF (a b : Fr) : Fr := op2F a b (a.num * b.num) (a.den * b.den)
def mulE (a b : Fr) : Int := op2E a b (a.num * b.num) (a.den * b.den)
def divF (a b : Fr) : Fr := op2F a b (a.num * b.den) (a.den * b.num)
def divE (a b : Fr) : Int := op2E a b (a.num * b.den) (a.den * b.num)
theorem op2_ok {a b : Fr} {n d : Int} (h : op2E a b n d = 0) : vF a = true ∧ vF b = true ∧ mkE n d = 0 ∧ op2F a b n d = mkF n d := by
  unfold op2E at h
  split at h
  · rename_i hv
    exact ⟨hv.1, hv.2, h, by simp [op2F, hv]⟩
  · omega
theorem op2_bad {a b : Fr} {n d : Int} (h : op2E a b n d ≠ 0) : op2F a b n d = Fr.zero := by
  unfold op2E at h
  unfold op2F
  split
  · rename_i hv
    rw [if_pos hv] at h
    exact mkF_bad h
  · rfl
theorem op2_vF {a b : Fr} {n d : Int} : vF (op2F a b n d) = decide (op2E a b n d = 0) := by
  unfold op2F op2E
  split
  · exact vF_mk
  · simp [vF_zero]
theorem op2_spec {a b : Fr} {n d : Int} (h : op2E a b n d = 0) : vF a = true ∧ vF b = true ∧ vF (op2F a b n d) = true ∧ (op2F a b n d).num * d = n * (op2F a b n d).den ∧ 0 < (op2F a b n d).den := by
  obtain ⟨h1, h2, h3, h4⟩ := op2_ok h
  rw [h4]
  exact ⟨h1, h2, mk_spec h3⟩
theorem op2_of {a b x : Fr} {n d : Int} (ha : vF a = true) (hb : vF b = true) (hx : vF x = true) (hd : d ≠ 0) (he : n * x.den = x.num * d) : op2E a b n d = 0 ∧ op2F a b n d = x := by
  have h := mk_of hx hd he
  simp [op2E, op2F, ha, hb, h]
theorem vF_den {a : Fr} (h : vF a = true) : 0 < a.den := by have := (vF_iff.1 h).1.1; omega
/-- sums and products do not depend on the order -/
theorem add_comm_ (a b : Fr) : addF a b = addF b a := by
  simp only [addF, op2F]
  rw [show a.num * b.den + b.num * a.den = b.num * a.den + a.num * b.den by omega, Int.mul_comm a.den]
  by_cases h : vF a = true <;> by_cases h' : vF b = true <;> simp [h, h']
theorem mul_comm_ (a b : Fr) : mulF a b = mulF b a := by
  simp only [mulF, op2F]
  rw [Int.mul_comm a.num, Int.mul_comm a.den]
  by_cases h : vF a = true <;> by_cases h' : vF b = true <;> simp [h, h']
theorem nz_ok {a b : Fr} {n d : Int} (h : op2F a b n d ≠ Fr.zero) : op2E a b n d = 0 := Classical.byContradiction fun h' => h (op2_bad h')
theorem ring1 {a b c : Fr} (h1 : addF (addF a b) c ≠ Fr.zero) (h2 : addF a (addF b c) ≠ Fr.zero) : addF (addF a b) c = addF a (addF b c) := by
  obtain ⟨a1, a2, a3, a4, a5⟩ := op2_spec (nz_ok h1)
  obtain ⟨b1, b2, b3, b4, b5⟩ := op2_spec (nz_ok h2)
  have s1 : addE a b = 0 := by have := op2_vF.symm.trans a1; exact of_decide_eq_true this
  have s2 : addE b c = 0 := by have := op2_vF.symm.trans b2; exact of_decide_eq_true this
  obtain ⟨c1, c2, c3, c4, c5⟩ := op2_spec s1
  obtain ⟨d1, d2, d3, d4, d5⟩ := op2_spec s2
  have k1 := vF_den c1
  have k2 := vF_den c2
  have k3 := vF_den a2
  change (addF a b).num * _ = _ * (addF a b).den at c4
  change 0 < (addF a b).den at c5
  change (addF b c).num * _ = _ * (addF b c).den at d4
  change 0 < (addF b c).den at d5
  change (addF (addF a b) c).num * _ = _ * (addF (addF a b) c).den at a4
  change (addF a (addF b c)).num * _ = _ * (addF a (addF b c)).den at b4
  refine vF_unique a3 b3 ?_
  change (addF (addF a b) c).num * (addF a (addF b c)).den = (addF a (addF b c)).num * (addF (addF a b) c).den
  generalize addF (addF a b) c = t at *
  generalize addF a (addF b c) = u at *
  generalize addF a b = s at *
  generalize addF b c = r at *
  have kk : s.den * r.den * (a.den * b.den * c.den) ≠ 0 := Int.mul_ne_zero (Int.mul_ne_zero (by omega) (by omega)) (Int.mul_ne_zero (Int.mul_ne_zero (by omega) (by omega)) (by omega))
  have t1 : s.den * (t.num * (a.den * b.den * c.den)) = s.den * ((a.num * b.den * c.den + b.num * a.den * c.den + c.num * a.den * b.den) * t.den) := by
    clear kk b4 d4; grind
  have t2 : r.den * (u.num * (a.den * b.den * c.den)) = r.den * ((a.num * b.den * c.den + b.num * a.den * c.den + c.num * a.den * b.den) * u.den) := by
    clear kk a4 c4 t1; grind
  have t1 := Int.eq_of_mul_eq_mul_left (by omega) t1
  have t2 := Int.eq_of_mul_eq_mul_left (by omega) t2
  have k4 : a.den * b.den * c.den ≠ 0 := Int.mul_ne_zero (Int.mul_ne_zero (by omega) (by omega)) (by omega)
  refine Int.eq_of_mul_eq_mul_left k4 ?_
  clear a4 b4 c4 d4 kk k4
  grind
theorem ring2 {a b c : Fr} (h1 : mulF (mulF a b) c ≠ Fr.zero) (h2 : mulF a (mulF b c) ≠ Fr.zero) : mulF (mulF a b) c = mulF a (mulF b c) := by
  obtain ⟨a1, a2, a3, a4, a5⟩ := op2_spec (nz_ok h1)
  obtain ⟨b1, b2, b3, b4, b5⟩ := op2_spec (nz_ok h2)
  have s1 : mulE a b = 0 := by have := op2_vF.symm.trans a1; exact of_decide_eq_true this
  have s2 : mulE b c = 0 := by have := op2_vF.symm.trans b2; exact of_decide_eq_true this
  obtain ⟨c1, c2, c3, c4, c5⟩ := op2_spec s1
  obtain ⟨d1, d2, d3, d4, d5⟩ := op2_spec s2
  have k1 := vF_den c1
  have k2 := vF_den c2
  have k3 := vF_den a2
  change (mulF a b).num * _ = _ * (mulF a b).den at c4
  change 0 < (mulF a b).den at c5
  change (mulF b c).num * _ = _ * (mulF b c).den at d4
  change 0 < (mulF b c).den at d5
  change (mulF (mulF a b) c).num * _ = _ * (mulF (mulF a b) c).den at a4
  change (mulF a (mulF b c)).num * _ = _ * (mulF a (mulF b c)).den at b4
  refine vF_unique a3 b3 ?_
  change (mulF (mulF a b) c).num * (mulF a (mulF b c)).den = (mulF a (mulF b c)).num * (mulF (mulF a b) c).den
  generalize mulF (mulF a b) c = t at *
  generalize mulF a (mulF b c) = u at *
  generalize mulF a b = s at *
  generalize mulF b c = r at *
  have t1 : s.den * (t.num * (a.den * b.den * c.den)) = s.den * ((a.num * b.num * c.num) * t.den) := by
    clear b4 d4; grind
  have t2 : r.den * (u.num * (a.den * b.den * c.den)) = r.den * ((a.num * b.num * c.num) * u.den) := by
    clear a4 c4 t1; grind
  have t1 := Int.eq_of_mul_eq_mul_left (by omega) t1
  have t2 := Int.eq_of_mul_eq_mul_left (by omega) t2
  have k4 : a.den * b.den * c.den ≠ 0 := Int.mul_ne_zero (Int.mul_ne_zero (by omega) (by omega)) (by omega)
  refine Int.eq_of_mul_eq_mul_left k4 ?_
  clear a4 b4 c4 d4 k4
  grind
theorem ring3 {a b c : Fr} (h1 : mulF a (addF b c) ≠ Fr.zero) (h2 : addF (mulF a b) (mulF a c) ≠ Fr.zero) : mulF a (addF b c) = addF (mulF a b) (mulF a c) := by
  obtain ⟨a1, a2, a3, a4, a5⟩ := op2_spec (nz_ok h1)
  obtain ⟨b1, b2, b3, b4, b5⟩ := op2_spec (nz_ok h2)
  have s1 : addE b c = 0 := by have := op2_vF.symm.trans a2; exact of_decide_eq_true this
  have s2 : mulE a b = 0 := by have := op2_vF.symm.trans b1; exact of_decide_eq_true this
  have s3 : mulE a c = 0 := by have := op2_vF.symm.trans b2; exact of_decide_eq_true this
  obtain ⟨c1, c2, c3, c4, c5⟩ := op2_spec s1
  obtain ⟨d1, d2, d3, d4, d5⟩ := op2_spec s2
  obtain ⟨e1, e2, e3, e4, e5⟩ := op2_spec s3
  have k1 := vF_den d1
  have k2 := vF_den c1
  have k3 := vF_den c2
  change (addF b c).num * _ = _ * (addF b c).den at c4
  change 0 < (addF b c).den at c5
  change (mulF a b).num * _ = _ * (mulF a b).den at d4
  change 0 < (mulF a b).den at d5
  change (mulF a c).num * _ = _ * (mulF a c).den at e4
  change 0 < (mulF a c).den at e5
  change (mulF a (addF b c)).num * _ = _ * (mulF a (addF b c)).den at a4
  change (addF (mulF a b) (mulF a c)).num * _ = _ * (addF (mulF a b) (mulF a c)).den at b4
  refine vF_unique a3 b3 ?_
  change (mulF a (addF b c)).num * (addF (mulF a b) (mulF a c)).den = (addF (mulF a b) (mulF a c)).num * (mulF a (addF b c)).den
  generalize mulF a (addF b c) = t at *
  generalize addF (mulF a b) (mulF a c) = u at *
  generalize addF b c = r at *
  generalize mulF a b = p at *
  generalize mulF a c = q at *
  have t1 : r.den * (t.num * (a.den * b.den * c.den)) = r.den * (a.num * (b.num * c.den + c.num * b.den) * t.den) := by
    clear b4 d4 e4; grind
  have t2 : p.den * q.den * (a.den * (u.num * (a.den * b.den * c.den))) = p.den * q.den * (a.den * (a.num * (b.num * c.den + c.num * b.den) * u.den)) := by
    clear a4 c4 t1; grind
  have t1 := Int.eq_of_mul_eq_mul_left (by omega) t1
  have t2 := Int.eq_of_mul_eq_mul_left (Int.mul_ne_zero (by omega) (by omega)) t2
  have t2 := Int.eq_of_mul_eq_mul_left (by omega) t2
  have k4 : a.den * b.den * c.den ≠ 0 := Int.mul_ne_zero (Int.mul_ne_zero (by omega) (by omega)) (by omega)
  refine Int.eq_of_mul_eq_mul_left k4 ?_
  clear a4 b4 c4 d4 e4 k4
  grind
/-- differences undo sums, quotients products -/
theorem undo1 {a b : Fr} (h : addE a b = 0) : subE (addF a b) b = 0 ∧ subF (addF a b) b = a := by
  obtain ⟨a1, a2, a3, a4, a5⟩ := op2_spec h
  have k1 := vF_den a1
  have k2 := vF_den a2
  refine op2_of a3 a2 a1 (Int.mul_ne_zero (by change 0 < (addF a b).den at a5; change (addF a b).den ≠ 0; omega) (by omega)) ?_
  change (addF a b).num * _ = _ * (addF a b).den at a4
  change ((addF a b).num * b.den - b.num * (addF a b).den) * a.den = a.num * ((addF a b).den * b.den)
  generalize addF a b = s at *
  grind
theorem undo2 {a b : Fr} (h : mulE a b = 0) (h0 : b.num ≠ 0) : divE (mulF a b) b = 0 ∧ divF (mulF a b) b = a := by
  obtain ⟨a1, a2, a3, a4, a5⟩ := op2_spec h
  have k1 := vF_den a1
  have k2 := vF_den a2
  refine op2_of a3 a2 a1 (Int.mul_ne_zero (by change 0 < (mulF a b).den at a5; change (mulF a b).den ≠ 0; omega) h0) ?_
  change (mulF a b).num * _ = _ * (mulF a b).den at a4
  change ((mulF a b).num * b.den) * a.den = a.num * ((mulF a b).den * b.num)
  generalize mulF a b = s at *
  grind
/-- the order -/
def cmpD (a b : Fr) : Int := a.num * b.den - b.num * a.den
def cmpF (a b : Fr) : Int := if cmpD a b < 0 then -1 else if 0 < cmpD a b then 1 else 0
theorem cmp_swap (a b : Fr) : cmpF a b = -cmpF b a := by
  have e : cmpD b a = -cmpD a b := by unfold cmpD; omega
  unfold cmpF
  rw [e]
  generalize cmpD a b = x
  by_cases h : x < 0
  · rw [if_pos h, if_neg (by omega), if_pos (by omega)]
  · by_cases h' : 0 < x
    · rw [if_neg h, if_pos h', if_pos (by omega)]; rfl
    · rw [if_neg h, if_neg h', if_neg (by omega), if_neg (by omega)]; rfl
theorem cmp_zero {a b : Fr} (ha : vF a = true) (hb : vF b = true) : (cmpF a b = 0) ↔ a = b := by
  constructor
  · intro h
    refine vF_unique ha hb ?_
    have e : cmpD a b = 0 := by
      unfold cmpF at h
      generalize cmpD a b = x at *
      by_cases h1 : x < 0
      · rw [if_pos h1] at h; omega
      · by_cases h2 : 0 < x
        · rw [if_neg h1, if_pos h2] at h; omega
        · omega
    unfold cmpD at e
    omega
  · rintro rfl
    simp [cmpF, cmpD]
theorem cmp_pos {a b x y : Fr} {k m : Int} (hk : 0 < k) (hm : 0 < m) (h : k * cmpD x y = m * cmpD a b) : cmpF x y = cmpF a b := by
  unfold cmpF
  rcases Int.lt_trichotomy (cmpD a b) 0 with h1 | h1 | h1
  · have := Int.mul_neg_of_pos_of_neg hm h1
    have : cmpD x y < 0 := by
      rcases Int.lt_or_le (cmpD x y) 0 with h2 | h2
      · exact h2
      · have := Int.mul_nonneg (Int.le_of_lt hk) h2; omega
    simp [h1, this]
  · rw [h1] at h
    have : cmpD x y = 0 := by
      have e : k * cmpD x y = 0 := by rw [h]; simp
      rcases Int.mul_eq_zero.1 e with h2 | h2 <;> omega
    simp [h1, this]
  · have := Int.mul_pos hm h1
    have : 0 < cmpD x y := by
      rcases Int.lt_or_le 0 (cmpD x y) with h2 | h2
      · exact h2
      · have := Int.mul_nonpos_of_nonneg_of_nonpos (Int.le_of_lt hk) h2; omega
    rw [if_neg (by omega), if_pos this, if_neg (by omega), if_pos h1]
theorem grow1 {a b c : Fr} (h1 : addE a c = 0) (h2 : addE b c = 0) : cmpF (addF a c) (addF b c) = cmpF a b := by
  obtain ⟨a1, a2, a3, a4, a5⟩ := op2_spec h1
  obtain ⟨b1, b2, b3, b4, b5⟩ := op2_spec h2
  have k1 := vF_den a1
  have k2 := vF_den b1
  have k3 := vF_den a2
  change (addF a c).num * _ = _ * (addF a c).den at a4
  change 0 < (addF a c).den at a5
  change (addF b c).num * _ = _ * (addF b c).den at b4
  change 0 < (addF b c).den at b5
  generalize addF a c = x at *
  generalize addF b c = y at *
  refine cmp_pos (k := a.den * b.den * c.den) (m := x.den * y.den * c.den) (Int.mul_pos (Int.mul_pos k1 k2) k3) (Int.mul_pos (Int.mul_pos a5 b5) k3) ?_
  unfold cmpD
  refine Int.eq_of_mul_eq_mul_left (show c.den ≠ 0 by omega) ?_
  grind
theorem grow2 {a b c : Fr} (h1 : mulE a c = 0) (h2 : mulE b c = 0) (h0 : 0 < c.num) : cmpF (mulF a c) (mulF b c) = cmpF a b := by
  obtain ⟨a1, a2, a3, a4, a5⟩ := op2_spec h1
  obtain ⟨b1, b2, b3, b4, b5⟩ := op2_spec h2
  have k1 := vF_den a1
  have k2 := vF_den b1
  have k3 := vF_den a2
  change (mulF a c).num * _ = _ * (mulF a c).den at a4
  change 0 < (mulF a c).den at a5
  change (mulF b c).num * _ = _ * (mulF b c).den at b4
  change 0 < (mulF b c).den at b5
  generalize mulF a c = x at *
  generalize mulF b c = y at *
  refine cmp_pos (k := a.den * b.den * c.den) (m := x.den * y.den * c.num) (Int.mul_pos (Int.mul_pos k1 k2) k3) (Int.mul_pos (Int.mul_pos a5 b5) h0) ?_
  unfold cmpD
  refine Int.eq_of_mul_eq_mul_left (show c.den ≠ 0 by omega) ?_
  grind
/-- floors and ceilings -/
def flF (a : Fr) : Int := a.num / a.den
def ceF (a : Fr) : Int := -flF (negF a)
theorem fl_spec {a : Fr} (h : vF a = true) : flF a * a.den ≤ a.num ∧ a.num < (flF a + 1) * a.den ∧ -1073741824 ≤ flF a ∧ flF a ≤ 1073741824 := by
  obtain ⟨b1, b2, b3, b4⟩ := (vF_iff.1 h).1
  have h1 := Int.mul_ediv_add_emod a.num a.den
  have h2 := Int.emod_nonneg a.num (show a.den ≠ 0 by omega)
  have h3 := Int.emod_lt_of_pos a.num (show 0 < a.den by omega)
  unfold flF
  refine ⟨by grind, by grind, ?_, ?_⟩
  · refine (Int.le_ediv_iff_mul_le (by omega)).2 ?_
    have : (1073741824 : Int) * 1 ≤ 1073741824 * a.den := Int.mul_le_mul_of_nonneg_left b1 (by decide)
    omega
  · refine Int.ediv_le_of_le_mul (by omega) ?_
    have : (1073741824 : Int) * 1 ≤ 1073741824 * a.den := Int.mul_le_mul_of_nonneg_left b1 (by decide)
    omega
theorem ce_spec {a : Fr} (h : vF a = true) : a.num ≤ ceF a * a.den ∧ (ceF a - 1) * a.den < a.num ∧ -1073741824 ≤ ceF a ∧ ceF a ≤ 1073741824 := by
  have := fl_spec (a := negF a) (by rw [vF_neg]; exact h)
  unfold ceF
  simp only [negF] at *
  generalize flF ⟨-a.num, a.den⟩ = f at *
  obtain ⟨c1, c2, c3, c4⟩ := this
  refine ⟨by grind, by grind, by omega, by omega⟩
theorem floors {a : Fr} (h : vF a = true) : (flF a = ceF a ∧ a.den = 1) ∨ (flF a + 1 = ceF a ∧ 1 < a.den) := by
  obtain ⟨b1, b2, b3, b4⟩ := fl_spec h
  obtain ⟨c1, c2, c3, c4⟩ := ce_spec h
  obtain ⟨⟨d1, d2, d3, d4⟩, hg⟩ := vF_iff.1 h
  generalize flF a = f at *
  generalize ceF a = c at *
  have l1 : f ≤ c := by
    rcases Int.lt_or_le c f with x | x
    · have : c * a.den < f * a.den := Int.mul_lt_mul_of_pos_right x (by omega); omega
    · exact x
  have l2 : c < f + 2 := by
    rcases Int.lt_or_le (c - 1) (f + 1) with x | x
    · omega
    · have := Int.mul_le_mul_of_nonneg_right x (show 0 ≤ a.den by omega); omega
  have e1 : a.den = 1 → f = c := by
    intro e
    rw [e] at b1 b2 c1 c2
    omega
  have e2 : f = c → a.den = 1 := by
    intro e
    subst e
    have en : a.num = f * a.den := by omega
    have : a.den.natAbs ∣ gF a.num a.den := Nat.dvd_gcd (by rw [en, Int.natAbs_mul]; exact Nat.dvd_mul_left _ _) (Nat.dvd_refl _)
    rw [hg] at this
    have := Nat.le_of_dvd (by omega) this
    omega
  by_cases e : f = c
  · exact .inl ⟨e, e2 e⟩
  · exact .inr ⟨by omega, by have : a.den ≠ 1 := fun h => e (e1 h); omega⟩
end Go.Proofs.YtkjndkeboeieoaaGreatDoor

namespace Go.Proofs.YtkjndkeboeieoaaGreatDoor

theorem take_snocR (l : List Int) (k : Nat) (h : k < l.length) : l.take (k + 1) = l.take k ++ [l[k]] := by rw [List.take_succ_eq_append_getElem h]
/-- the sum of the first k weights -/
def preS (l : List Int) (k : Nat) : Int := (l.take k).sum
theorem preS_zero (l : List Int) : preS l 0 = 0 := by simp [preS]
theorem preS_succ (l : List Int) (k : Nat) (h : k < l.length) : preS l (k + 1) = preS l k + l[k] := by
  unfold preS
  rw [take_snocR l k h, List.sum_append]
  simp
theorem preS_all (l : List Int) : preS l l.length = l.sum := by simp [preS]
/-- all weights fit -/
def wOk (l : List Int) : Prop := ∀ i (h : i < l.length), 0 ≤ l[i] ∧ l[i] ≤ 1125899906842624
def wB (l : List Int) : Bool := l.all fun x => decide (0 ≤ x ∧ x ≤ 1125899906842624)
theorem wB_iff {l : List Int} : wB l = true ↔ wOk l := by
  simp only [wB, List.all_eq_true, decide_eq_true_eq, wOk]
  constructor
  · exact fun h i hi => h _ (List.getElem_mem hi)
  · intro h x hx
    obtain ⟨i, hi, rfl⟩ := List.mem_iff_getElem.1 hx
    exact h i hi
theorem preS_bd {l : List Int} (h : wOk l) : ∀ k, k ≤ l.length → 0 ≤ preS l k ∧ preS l k ≤ k * 1125899906842624
  | 0, _ => by simp [preS_zero]
  | k + 1, hk => by
    have i := preS_bd h k (by omega)
    have j := h k (by omega)
    rw [preS_succ l k (by omega)]
    omega
theorem preS_mono {l : List Int} (h : wOk l) {j : Nat} : ∀ {k}, j ≤ k → k ≤ l.length → preS l j ≤ preS l k
  | 0, hj, _ => by obtain rfl : j = 0 := by omega
                   exact Int.le_refl _
  | k + 1, hj, hk => by
    rcases Nat.lt_or_ge j (k + 1) with h1 | h1
    · have i := preS_mono h (j := j) (k := k) (by omega) (by omega)
      have := h k (by omega)
      rw [preS_succ l k (by omega)]
      omega
    · obtain rfl : j = k + 1 := by omega
      exact Int.le_refl _
/-- the first k shares of t by l, of the sum S -/
def qK (t S : Int) (l : List Int) (k : Nat) : Int := t * preS l k / S
def shK (t S : Int) (l : List Int) : Nat → List Int
  | 0 => []
  | k + 1 => shK t S l k ++ [qK t S l (k + 1) - qK t S l k]
theorem shK_length (t S : Int) (l : List Int) : ∀ k, (shK t S l k).length = k
  | 0 => rfl
  | k + 1 => by simp [shK, shK_length t S l k]
theorem shK_at (t S : Int) (l : List Int) : ∀ (k i : Nat) (_ : i < k), (shK t S l k)[i]? = some (qK t S l (i + 1) - qK t S l i)
  | k + 1, i, h => by
    simp only [shK]
    rcases Nat.lt_or_ge i k with h1 | h1
    · rw [List.getElem?_append_left (by rw [shK_length]; exact h1)]
      exact shK_at t S l k i h1
    · obtain rfl : i = k := by omega
      rw [List.getElem?_append_right (by rw [shK_length]; omega)]
      simp [shK_length]
theorem qK_bd {t S : Int} {l : List Int} (ht : 0 ≤ t) (hS : 0 < S) (hw : wOk l) (hs : l.sum ≤ S) (k : Nat) (hk : k ≤ l.length) : 0 ≤ qK t S l k ∧ qK t S l k ≤ t := by
  have b := preS_bd hw k hk
  have m : preS l k ≤ S := by
    have := preS_mono hw hk (Nat.le_refl _)
    rw [preS_all] at this
    omega
  unfold qK
  refine ⟨Int.ediv_nonneg (Int.mul_nonneg ht b.1) (by omega), ?_⟩
  refine Int.ediv_le_of_le_mul hS ?_
  exact Int.mul_le_mul_of_nonneg_left m ht
theorem qK_mono {t S : Int} {l : List Int} (ht : 0 ≤ t) (hS : 0 < S) (hw : wOk l) {j k : Nat} (hjk : j ≤ k) (hk : k ≤ l.length) : qK t S l j ≤ qK t S l k :=
  Int.ediv_le_ediv hS (Int.mul_le_mul_of_nonneg_left (preS_mono hw hjk hk) ht)
theorem qK_zero (t S : Int) (l : List Int) : qK t S l 0 = 0 := by simp [qK, preS_zero]
theorem qK_all {t : Int} {l : List Int} (hS : 0 < l.sum) : qK t l.sum l l.length = t := by
  unfold qK
  rw [preS_all]
  exact Int.mul_ediv_cancel t (by omega)
def shE (t : Int) (l : List Int) : Int :=
  if 10000 < l.length then 4 else if t < 0 ∨ 1125899906842624 < t then 2 else if wB l = false then 2 else if 1152921504606846976 < l.sum then 5 else if l.sum = 0 then 16 else 0
/-- the sum that the program keeps: it stops at 2^60 -/
def capS (l : List Int) (k : Nat) : Int := if 1152921504606846976 < preS l k then 1152921504606846976 else preS l k
def bigS (l : List Int) (k : Nat) : Bool := decide (1152921504606846976 < preS l k)
theorem cap_step {l : List Int} (h : wOk l) (k : Nat) (hk : k < l.length) : 0 ≤ capS l k ∧ capS l k ≤ 1152921504606846976 ∧
    (1152921504606846976 < capS l k + l[k] → capS l (k + 1) = 1152921504606846976 ∧ bigS l (k + 1) = true) ∧ (capS l k + l[k] ≤ 1152921504606846976 → capS l (k + 1) = capS l k + l[k] ∧ bigS l (k + 1) = bigS l k) := by
  have b := (preS_bd h k (by omega)).1
  have x := h k hk
  have e := preS_succ l k hk
  unfold capS bigS
  rw [e]
  generalize preS l k = p at *
  generalize l[k] = y at *
  by_cases hp : 1152921504606846976 < p
  · rw [if_pos hp]
    refine ⟨by omega, by omega, fun _ => ?_, fun h' => ?_⟩
    · rw [if_pos (by omega)]; exact ⟨rfl, decide_eq_true (by omega)⟩
    · rw [if_pos (by omega)]; exact ⟨by omega, by rw [decide_eq_true (by omega), decide_eq_true hp]⟩
  · rw [if_neg hp]
    refine ⟨by omega, by omega, fun h' => ?_, fun h' => ?_⟩
    · rw [if_pos (by omega)]; exact ⟨rfl, decide_eq_true (by omega)⟩
    · rw [if_neg (by omega)]; exact ⟨rfl, by rw [decide_eq_false (by omega), decide_eq_false hp]⟩
theorem cap_stepK {l : List Int} {k : Nat} (h : ∀ i (h : i < l.length), i < k + 1 → 0 ≤ l[i] ∧ l[i] ≤ 1125899906842624) (hk : k < l.length) : 0 ≤ capS l k ∧ capS l k ≤ 1152921504606846976 ∧
    (1152921504606846976 < capS l k + l[k] → capS l (k + 1) = 1152921504606846976 ∧ bigS l (k + 1) = true) ∧ (capS l k + l[k] ≤ 1152921504606846976 → capS l (k + 1) = capS l k + l[k] ∧ bigS l (k + 1) = bigS l k) := by
  have hw : wOk (l.take (k + 1)) := fun i hi => by
    rw [List.length_take] at hi
    rw [List.getElem_take]
    exact h i (by omega) (by omega)
  have hlen : (l.take (k + 1)).length = k + 1 := by rw [List.length_take]; omega
  have p0 : preS (l.take (k + 1)) k = preS l k := by unfold preS; rw [List.take_take, Nat.min_eq_left (by omega)]
  have p1 : preS (l.take (k + 1)) (k + 1) = preS l (k + 1) := by unfold preS; rw [List.take_take, Nat.min_self]
  have r := cap_step hw k (by omega)
  unfold capS bigS at *
  rw [p0, p1, List.getElem_take] at r
  exact r
theorem cap_all {l : List Int} : capS l l.length = (if 1152921504606846976 < l.sum then 1152921504606846976 else l.sum) ∧ bigS l l.length = decide (1152921504606846976 < l.sum) := by
  unfold capS bigS
  rw [preS_all]
  exact ⟨rfl, rfl⟩
theorem cap_zero (l : List Int) : capS l 0 = 0 ∧ bigS l 0 = false := by simp [capS, bigS, preS_zero]
/-- the step of the second loop, in natural numbers -/
theorem share_step {T SS : Nat} {l : List Int} (hT : T ≤ 1125899906842624) (hS : l.sum = (SS : Int)) (h0 : 0 < SS) (hS' : SS ≤ 1152921504606846976) (hw : wOk l) (k : Nat) (hk : k < l.length) :
    ∃ F Q : Nat, preS l (k + 1) = (F : Int) ∧ F ≤ SS ∧ T * F / 18446744073709551616 < SS ∧ T * F % 18446744073709551616 < 18446744073709551616 ∧ (T * F / 18446744073709551616 * 18446744073709551616 + T * F % 18446744073709551616) / SS = Q ∧
      qK (T : Int) (SS : Int) l (k + 1) = (Q : Int) ∧ Q ≤ 1125899906842624 ∧ 0 ≤ qK (T : Int) (SS : Int) l k ∧ qK (T : Int) (SS : Int) l k ≤ 1125899906842624 ∧ 0 ≤ preS l k ∧ preS l k ≤ 1152921504606846976 := by
  have b1 := preS_bd hw (k + 1) (by omega)
  have b0 := preS_bd hw k (by omega)
  have m1 := preS_mono hw (show k + 1 ≤ l.length by omega) (Nat.le_refl _)
  have m0 := preS_mono hw (show k ≤ l.length by omega) (Nat.le_refl _)
  rw [preS_all, hS] at m1 m0
  have q0 := qK_bd (t := (T : Int)) (S := (SS : Int)) (by omega) (by omega) hw (by omega) k (by omega)
  obtain ⟨F, hF⟩ : ∃ F : Nat, preS l (k + 1) = (F : Int) := ⟨(preS l (k + 1)).toNat, by omega⟩
  have hFS : F ≤ SS := by omega
  have hm : T * F ≤ 1125899906842624 * SS := Nat.mul_le_mul hT hFS
  have ej : T * F / 18446744073709551616 * 18446744073709551616 + T * F % 18446744073709551616 = T * F := by omega
  have hq : T * F / SS ≤ T := Nat.div_le_of_le_mul (by rw [Nat.mul_comm SS T]; exact Nat.mul_le_mul_left T hFS)
  refine ⟨F, T * F / SS, hF, hFS, by omega, Nat.mod_lt _ (by decide), by rw [ej], ?_, by omega, by omega, by omega, by omega, by omega⟩
  unfold qK
  rw [hF, ← Int.natCast_mul, ← Int.natCast_ediv]
/-- one bit of the long division: B is the bit, T what is above it -/
theorem bit_and (t i : Nat) : t &&& 2 ^ i = if t / 2 ^ i % 2 = 1 then 2 ^ i else 0 := by
  have e : t.testBit i = decide (t / 2 ^ i % 2 = 1) := Nat.testBit_eq_decide_div_mod_eq
  refine Nat.eq_of_testBit_eq fun j => ?_
  rw [Nat.testBit_and, Nat.testBit_two_pow]
  by_cases h : t / 2 ^ i % 2 = 1
  · rw [if_pos h, Nat.testBit_two_pow]
    by_cases hj : i = j
    · subst hj; simp [e, h]
    · simp [hj]
  · rw [if_neg h, Nat.zero_testBit]
    by_cases hj : i = j
    · subst hj; simp [e, h]
    · simp [hj]
/-- before the round at which the bit is half of P: what is above P's half is divided -/
def PartRel (t : Nat) (p s q r : Int) (P : Nat) : Prop := ∃ j : Nat, P = 2 ^ j ∧ j ≤ 62 ∧ ((t / P : Nat) : Int) * p = q * s + r ∧ 0 ≤ r ∧ r < s ∧ 0 ≤ q
theorem part_start {t : Nat} {p s : Int} (ht : t < 4611686018427387904) (hs : 0 < s) : PartRel t p s 0 0 4611686018427387904 :=
  ⟨62, by decide, by omega, by rw [Nat.div_eq_of_lt ht]; simp, by omega, by omega, by omega⟩
theorem part_end {t : Nat} {p s q r : Int} (hs : 0 < s) (h : PartRel t p s q r 1) : (t : Int) * p / s = q := by
  obtain ⟨j, _, _, e, h0, h1, _⟩ := h
  rw [Nat.div_one] at e
  rw [e, Int.add_comm, Int.add_mul_ediv_right _ _ (by omega), Int.ediv_eq_zero_of_lt h0 h1]
  omega
theorem part_q {t : Nat} {p s q r : Int} {P : Nat} (hp : 0 ≤ p) (hps : p ≤ s) (h : PartRel t p s q r P) : 0 ≤ q ∧ q ≤ t ∧ 0 ≤ r ∧ r < s := by
  obtain ⟨j, eP, _, e, h0, h1, hq⟩ := h
  refine ⟨hq, ?_, h0, h1⟩
  have b1 : ((t / P : Nat) : Int) ≤ t := by have := Nat.div_le_self t P; omega
  have b2 : ((t / P : Nat) : Int) * p ≤ t * p := Int.mul_le_mul_of_nonneg_right b1 hp
  have b3 : (t : Int) * p ≤ t * s := Int.mul_le_mul_of_nonneg_left hps (by omega)
  have b4 : q * s ≤ t * s := by omega
  exact Int.le_of_mul_le_mul_right b4 (by omega)
/-- one round -/
theorem part_round {t : Nat} {p s q r : Int} {P : Nat} (h : PartRel t p s q r P) (hP : 1 < P) : ∃ Q : Nat, P = 2 * Q ∧ 0 < Q ∧ Q ≤ 2305843009213693952 ∧
    (t &&& Q = Q ∨ t &&& Q = 0) ∧ (t &&& Q = Q → ∀ q' r' : Int, q' * s + r' = (2 * q) * s + (2 * r + p) → 0 ≤ r' → r' < s → 0 ≤ q' → PartRel t p s q' r' Q) ∧
    (t &&& Q = 0 → ∀ q' r' : Int, q' * s + r' = (2 * q) * s + 2 * r → 0 ≤ r' → r' < s → 0 ≤ q' → PartRel t p s q' r' Q) := by
  obtain ⟨j, e1, e2, e3, e4, e5, e6⟩ := h
  rcases j with _ | j
  · simp at e1; omega
  have hpow : 2 ^ (j + 1) = 2 * 2 ^ j := by rw [Nat.pow_succ, Nat.mul_comm]
  have hq := Nat.two_pow_pos j
  have hle : 2 ^ j ≤ 2 ^ 61 := Nat.pow_le_pow_right (by omega) (by omega)
  have ed : t / P = t / 2 ^ j / 2 := by rw [e1, hpow, Nat.mul_comm, Nat.div_div_eq_div_mul]
  have ha := bit_and t j
  refine ⟨2 ^ j, by omega, hq, by have : 2 ^ 61 = 2305843009213693952 := by decide
                                  omega, by split at ha <;> omega, fun hb q' r' he h0 h1 h2 => ⟨j, rfl, by omega, ?_, h0, h1, h2⟩, fun hb q' r' he h0 h1 h2 => ⟨j, rfl, by omega, ?_, h0, h1, h2⟩⟩
  · have hm : t / 2 ^ j % 2 = 1 := by split at ha <;> omega
    generalize t / 2 ^ j = T at *
    have eT : (T : Int) = 2 * ((t / P : Nat) : Int) + 1 := by omega
    rw [he, eT]
    generalize ((t / P : Nat) : Int) = U at *
    grind
  · have hm : t / 2 ^ j % 2 = 0 := by split at ha <;> omega
    generalize t / 2 ^ j = T at *
    have eT : (T : Int) = 2 * ((t / P : Nat) : Int) := by omega
    rw [he, eT]
    generalize ((t / P : Nat) : Int) = U at *
    grind
end Go.Proofs.YtkjndkeboeieoaaGreatDoor

namespace Go.Proofs.YtkjndkeboeieoaaGreatDoor
open Go.RowKit

theorem ret2_int {k k' : IntKind} {a b c d : Int} (h : a = b) (h' : c = d) : Ending.returned (.tuple #[.int k a, .int k' c]) = .returned (.tuple #[.int k b, .int k' d]) := by rw [h, h']
/-- Div64 where the high word is 0 -/
theorem div64_low (l y : Nat) (hl : l < 18446744073709551616) (hy : 0 < y) (hy' : y < 18446744073709551616) (w : World) :
    Calls Tryz.prog 71 #[.int .u64 0, .int .u64 l, .int .u64 y] w fun e w' => e = .returned (.tuple #[.int .u64 ((l / y : Nat) : Int), .int .u64 ((l % y : Nat) : Int)]) ∧ ∃ n, w' = w.drewN n := by
  have g1 : (0 : Int) < (y : Int) := by omega
  have g2 : (y : Int) ≠ 0 := by omega
  have g3 : ((y : Int) == 0) = false := by simp; omega
  go_enter Tryz.func71, Tryz.ntmps71
  go_wp2
  go_quiet (fail)
  go_wp2
  go_ret2
  refine ⟨ret2_int ?_ (by simp), _, rfl⟩
  have hd : l / y ≤ l := Nat.div_le_self _ _
  have e : (l : Int) / (y : Int) = ((l / y : Nat) : Int) := by simp
  rw [e, IntKind.wrap_u64]
  generalize l / y = k at *
  omega
end Go.Proofs.YtkjndkeboeieoaaGreatDoor

namespace Go.Proofs.YtkjndkeboeieoaaGreatDoor.D64
/-- one half step of the division: q estimates N / y, with y = a * 2^32 + b -/
theorem cond_iff {q a b r u n : Nat} (h : q * a + r = u) : (q * b > 4294967296 * r + n) ↔ u * 4294967296 + n < q * (a * 4294967296 + b) := by
  have e : q * (a * 4294967296 + b) = q * a * 4294967296 + q * b := by rw [Nat.mul_add, Nat.mul_assoc]
  rw [e]
  generalize q * a = p at *
  generalize q * b = s at *
  omega
theorem gt_iff {q y N : Nat} (hy : 0 < y) : N / y < q ↔ N < q * y := Nat.div_lt_iff_lt_mul hy
/-- the estimate at the beginning -/
theorem start {u a b : Nat} (ha : 2147483648 ≤ a) (hb : b < 4294967296) (hu : u < a * 4294967296 + b) : u / a * a + u % a = u ∧ u / a ≤ 4294967297 ∧ u % a < a := by
  refine ⟨by rw [Nat.mul_comm]; exact Nat.div_add_mod u a, ?_, Nat.mod_lt _ (by omega)⟩
  have : u / a < 4294967298 := by
    rw [Nat.div_lt_iff_lt_mul (by omega)]
    omega
  omega
theorem start_ge {u a b n : Nat} (ha : 0 < a) (hn : n < 4294967296) : (u * 4294967296 + n) / (a * 4294967296 + b) ≤ u / a := by
  rw [← Nat.lt_add_one_iff, Nat.div_lt_iff_lt_mul (by omega)]
  have h := Nat.div_add_mod u a
  have h2 := Nat.mod_lt u ha
  have e : (u / a + 1) * (a * 4294967296 + b) = (a * (u / a) + a) * 4294967296 + (u / a + 1) * b := by
    rw [Nat.mul_add, ← Nat.mul_assoc, Nat.add_mul (u / a) 1 a, Nat.one_mul, Nat.mul_comm (u / a) a]
  rw [e]
  generalize a * (u / a) = p at *
  generalize (u / a + 1) * b = s at *
  omega
theorem quo_small {u y n : Nat} (hu : u < y) (hn : n < 4294967296) : (u * 4294967296 + n) / y < 4294967296 := by
  rw [Nat.div_lt_iff_lt_mul (by omega)]
  have : (u + 1) * 4294967296 ≤ y * 4294967296 := Nat.mul_le_mul_right _ hu
  omega
/-- what holds at the head of the loop -/
def Rel (u a b n q r : Nat) : Prop := q * a + r = u ∧ (u * 4294967296 + n) / (a * 4294967296 + b) ≤ q ∧ q ≤ 4294967297 ∧ r < 4294967296
theorem Rel.bounds {u a b n q r : Nat} (h : Rel u a b n q r) (hb : b < 4294967296) (hn : n < 4294967296) : q * b ≤ 18446744073709551615 ∧ 4294967296 * r + n ≤ 18446744073709551615 := by
  obtain ⟨_, _, h3, h4⟩ := h
  have := Nat.mul_le_mul h3 (show b ≤ 4294967295 by omega)
  omega
/-- the loop ends: the estimate is the quotient -/
theorem Rel.done {u a b n q r : Nat} (h : Rel u a b n q r) (hy : 0 < a * 4294967296 + b) (hc : ¬ 4294967296 * r + n < q * b) : q = (u * 4294967296 + n) / (a * 4294967296 + b) := by
  obtain ⟨h1, h2, _, _⟩ := h
  have := (cond_iff (b := b) (n := n) h1)
  have k : ¬ (u * 4294967296 + n) / (a * 4294967296 + b) < q := by
    rw [gt_iff hy, ← this]; exact hc
  omega
/-- one step down -/
theorem Rel.down {u a b n q r : Nat} (h : Rel u a b n q r) (hy : 0 < a * 4294967296 + b) (hu : u < a * 4294967296 + b) (hn : n < 4294967296) (ha : a < 4294967296) (hb : b < 4294967296) (hc : 4294967296 ≤ q ∨ 4294967296 * r + n < q * b) :
    1 ≤ q ∧ r + a < 8589934592 ∧ (r + a < 4294967296 → Rel u a b n (q - 1) (r + a)) ∧ (4294967296 ≤ r + a → q - 1 = (u * 4294967296 + n) / (a * 4294967296 + b)) := by
  obtain ⟨h1, h2, h3, h4⟩ := h
  have gt : (u * 4294967296 + n) / (a * 4294967296 + b) < q := by
    rcases hc with hc | hc
    · have := quo_small hu hn; omega
    · rw [gt_iff hy, ← cond_iff h1]; exact hc
  generalize hQ : (u * 4294967296 + n) / (a * 4294967296 + b) = Q at gt h2 ⊢
  obtain ⟨p, rfl⟩ : ∃ p, q = p + 1 := ⟨q - 1, by omega⟩
  have h5 : p * a + (r + a) = u := by rw [Nat.add_mul, Nat.one_mul] at h1; omega
  refine ⟨by omega, by omega, fun hr => ⟨by simpa using h5, by simp only [Nat.add_sub_cancel]; rw [hQ]; exact Nat.lt_succ_iff.1 gt, by simp only [Nat.add_sub_cancel]; omega, hr⟩, fun hr => ?_⟩
  have k : ¬ Q < p := by
    rw [← hQ, gt_iff hy, ← cond_iff h5]
    have := Nat.mul_le_mul (show p ≤ 4294967296 by omega) (show b ≤ 4294967295 by omega)
    omega
  simp only [Nat.add_sub_cancel]
  omega
/-- what is left, reckoned in a word -/
theorem rest_word {u y n q : Nat} (hy : 0 < y) (hy' : y < 18446744073709551616) (hq : q = (u * 4294967296 + n) / y) : ((u * 4294967296 + n : Nat) - (q * y : Nat) : Int) % 18446744073709551616 = (((u * 4294967296 + n) % y : Nat) : Int) := by
  have h := Nat.div_add_mod (u * 4294967296 + n) y
  have h2 := Nat.mod_lt (u * 4294967296 + n) hy
  have e : q * y = y * ((u * 4294967296 + n) / y) := by rw [hq, Nat.mul_comm]
  rw [e]
  generalize y * ((u * 4294967296 + n) / y) = p at *
  generalize (u * 4294967296 + n) % y = r at *
  rw [← h]
  have e2 : (((p + r : Nat) : Int) - (p : Nat)) = (r : Int) := by omega
  rw [e2, Int.emod_eq_of_lt (by omega) (by omega)]
/-- two half steps make the whole one -/
theorem two_steps {N n y : Nat} (hy : 0 < y) : (N * 4294967296 + n) / y = N / y * 4294967296 + (N % y * 4294967296 + n) / y ∧
    (N * 4294967296 + n) % y = (N % y * 4294967296 + n) % y := by
  have h := Nat.div_add_mod N y
  have e : N * 4294967296 + n = N / y * 4294967296 * y + (N % y * 4294967296 + n) := by
    have : N / y * 4294967296 * y = y * (N / y) * 4294967296 := by rw [Nat.mul_right_comm, Nat.mul_comm (N / y) y]
    rw [this]
    generalize y * (N / y) = p at *
    omega
  constructor
  · rw [e, Nat.mul_comm _ y, Nat.mul_add_div hy]
  · rw [e, Nat.mul_comm _ y, Nat.mul_add_mod]
theorem shift_div {v y p : Nat} (hp : 0 < p) : v * p / (y * p) = v / y ∧ v * p % (y * p) / p = v % y := by
  refine ⟨Nat.mul_div_mul_right v y hp, ?_⟩
  rw [Nat.mul_mod_mul_right, Nat.mul_div_cancel _ hp]
/-- the shift that brings the divisor's first bit to the top -/
theorem shift_parts {h l y c : Nat} (hc1 : 1 ≤ c) (hc2 : c ≤ 64) (b1 : 2 ^ (c - 1) ≤ y) (b2 : y < 2 ^ c) (hh : h < y) (hl : l < 18446744073709551616) :
    9223372036854775808 ≤ y * 2 ^ (64 - c) ∧ y * 2 ^ (64 - c) < 18446744073709551616 ∧ h * 2 ^ (64 - c) < 18446744073709551616 ∧ (h * 2 ^ (64 - c) ||| l / 2 ^ c) = h * 2 ^ (64 - c) + l / 2 ^ c ∧
    (h * 2 ^ (64 - c) + l / 2 ^ c) * 18446744073709551616 + l * 2 ^ (64 - c) % 18446744073709551616 = (h * 18446744073709551616 + l) * 2 ^ (64 - c) ∧
    h * 2 ^ (64 - c) + l / 2 ^ c < y * 2 ^ (64 - c) := by
  have e1 : 2 ^ (c - 1) * 2 ^ (64 - c) = 9223372036854775808 := by
    rw [← Nat.pow_add, show c - 1 + (64 - c) = 63 by omega]
  have e2 : 2 ^ c * 2 ^ (64 - c) = 18446744073709551616 := by
    rw [← Nat.pow_add, show c + (64 - c) = 64 by omega]
  have hP : 0 < 2 ^ (64 - c) := Nat.two_pow_pos _
  have hC : 0 < 2 ^ c := Nat.two_pow_pos _
  have g1 : 9223372036854775808 ≤ y * 2 ^ (64 - c) := by rw [← e1]; exact Nat.mul_le_mul_right _ b1
  have g2 : y * 2 ^ (64 - c) < 18446744073709551616 := by rw [← e2]; exact Nat.mul_lt_mul_of_pos_right b2 hP
  have g3 : h * 2 ^ (64 - c) < y * 2 ^ (64 - c) := Nat.mul_lt_mul_of_pos_right hh hP
  have g4 : l / 2 ^ c < 2 ^ (64 - c) := by
    rw [Nat.div_lt_iff_lt_mul hC, Nat.mul_comm, e2]; exact hl
  have g5 : (h * 2 ^ (64 - c) ||| l / 2 ^ c) = h * 2 ^ (64 - c) + l / 2 ^ c := by
    have := Nat.two_pow_add_eq_or_of_lt (i := 64 - c) (b := l / 2 ^ c) g4 h
    rw [Nat.mul_comm (2 ^ (64 - c)) h] at this
    exact this.symm
  have g6 : l * 2 ^ (64 - c) / 18446744073709551616 = l / 2 ^ c := by
    rw [← e2]; exact Nat.mul_div_mul_right l (2 ^ c) hP
  have g7 := Nat.div_add_mod (l * 2 ^ (64 - c)) 18446744073709551616
  rw [g6] at g7
  have g8 : (h * 2 ^ (64 - c) + l / 2 ^ c) * 18446744073709551616 + l * 2 ^ (64 - c) % 18446744073709551616 = (h * 18446744073709551616 + l) * 2 ^ (64 - c) := by
    rw [Nat.add_mul (h * 18446744073709551616) l, Nat.mul_right_comm h 18446744073709551616]
    generalize h * 2 ^ (64 - c) = x at *
    generalize l / 2 ^ c = z at *
    generalize l * 2 ^ (64 - c) = t at *
    omega
  refine ⟨g1, g2, by omega, g5, g8, ?_⟩
  have g9 : (h * 18446744073709551616 + l) * 2 ^ (64 - c) < y * 2 ^ (64 - c) * 18446744073709551616 := by
    have : h * 18446744073709551616 + l < y * 18446744073709551616 := by
      have := Nat.mul_le_mul_right 18446744073709551616 hh
      omega
    have := Nat.mul_lt_mul_of_pos_right this hP
    rw [Nat.mul_right_comm y 18446744073709551616] at this
    exact this
  rw [← g8] at g9
  generalize h * 2 ^ (64 - c) + l / 2 ^ c = x at *
  generalize y * 2 ^ (64 - c) = z at *
  omega
end Go.Proofs.YtkjndkeboeieoaaGreatDoor.D64
