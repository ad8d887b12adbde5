/- Fractions, said of integers: what is made of a numerator and a denominator, which fractions are valid, and that two valid fractions of one value are equal. -/
import Derived.Test.YtaaadejamjbcbaaDoorOwn
namespace Go.Proofs.YtaaadejamjbcbaaDoor

structure Fr where
  num : Int
  den : Int
abbrev Fr.val (a : Fr) : Value := .agg #[.int .i64 a.num, .int .i64 a.den]
def Fr.zero : Fr := ⟨0, 0⟩
theorem fr_eq {s t : Fr} (h1 : s.num = t.num) (h2 : s.den = t.den) : s = t := by cases s; cases t; simp only at h1 h2; rw [h1, h2]
theorem fr_eq_iff {s t : Fr} : s = t ↔ s.num = t.num ∧ s.den = t.den := ⟨fun h => by rw [h]; exact ⟨rfl, rfl⟩, fun h => fr_eq h.1 h.2⟩
instance : DecidableEq Fr := fun _ _ => decidable_of_iff' _ fr_eq_iff
def gF (n d : Int) : Nat := Nat.gcd n.natAbs d.natAbs
def inF (a : Fr) : Prop := 1 ≤ a.den ∧ a.den ≤ 1073741824 ∧ -1073741824 ≤ a.num ∧ a.num ≤ 1073741824
instance (a : Fr) : Decidable (inF a) := by unfold inF; exact inferInstance
def vF (a : Fr) : Bool := decide (inF a) && decide (gF a.num a.den = 1)
theorem vF_iff {a : Fr} : vF a = true ↔ inF a ∧ gF a.num a.den = 1 := by simp [vF]
def mkE (n d : Int) : Int := if d = 0 then 16 else if n.natAbs / gF n d ≤ 1073741824 ∧ d.natAbs / gF n d ≤ 1073741824 then 0 else 5
/-- the sign goes to the numerator -/
def mkN (n d : Int) : Int := if (n < 0) ↔ (d < 0) then ((n.natAbs / gF n d : Nat) : Int) else -((n.natAbs / gF n d : Nat) : Int)
def mkF (n d : Int) : Fr := if mkE n d = 0 then ⟨mkN n d, ((d.natAbs / gF n d : Nat) : Int)⟩ else Fr.zero
theorem gF_pos {n d : Int} (h : d ≠ 0) : 0 < gF n d := Nat.gcd_pos_of_pos_right _ (by omega)
theorem mkE_eq {n d : Int} (h : d ≠ 0) : mkE n d = if n.natAbs / gF n d ≤ 1073741824 ∧ d.natAbs / gF n d ≤ 1073741824 then 0 else 5 := by simp [mkE, h]
theorem mkE_zero (n : Int) : mkE n 0 = 16 := by simp [mkE]
theorem mkF_zero (n : Int) : mkF n 0 = Fr.zero := by simp [mkF, mkE]
theorem mkF_bad {n d : Int} (h : mkE n d ≠ 0) : mkF n d = Fr.zero := by simp [mkF, h]
theorem mkE_ok {n d : Int} (h : mkE n d = 0) : d ≠ 0 ∧ n.natAbs / gF n d ≤ 1073741824 ∧ d.natAbs / gF n d ≤ 1073741824 := by
  unfold mkE at h
  split at h
  · omega
  · split at h
    · exact ⟨by assumption, by assumption⟩
    · omega
/-- the greatest common divisor, and the two numbers without it -/
theorem gF_parts {n d : Int} (h : d ≠ 0) : ∃ g q p : Nat, gF n d = g ∧ 0 < g ∧ n.natAbs = q * g ∧ d.natAbs = p * g ∧ 0 < p ∧ Nat.gcd q p = 1 ∧ n.natAbs / gF n d = q ∧ d.natAbs / gF n d = p := by
  have hg := gF_pos (n := n) h
  obtain ⟨q, hq⟩ : gF n d ∣ n.natAbs := Nat.gcd_dvd_left _ _
  obtain ⟨p, hp⟩ : gF n d ∣ d.natAbs := Nat.gcd_dvd_right _ _
  have e1 : n.natAbs / gF n d = q := by rw [hq]; exact Nat.mul_div_cancel_left q hg
  have e2 : d.natAbs / gF n d = p := by rw [hp]; exact Nat.mul_div_cancel_left p hg
  refine ⟨gF n d, q, p, rfl, hg, by rw [hq, Nat.mul_comm], by rw [hp, Nat.mul_comm], ?_, ?_, e1, e2⟩
  · rcases Nat.eq_zero_or_pos p with h0 | h0
    · subst h0; simp at hp; exact absurd hp h
    · exact h0
  · have := Nat.gcd_div_gcd_div_gcd_of_pos_right (n := n.natAbs) (m := d.natAbs) (by omega)
    unfold gF at e1 e2
    rw [e1, e2] at this
    exact this
theorem mk_spec {n d : Int} (h : mkE n d = 0) : vF (mkF n d) = true ∧ (mkF n d).num * d = n * (mkF n d).den ∧ 0 < (mkF n d).den := by
  obtain ⟨h0, h1, h2⟩ := mkE_ok h
  obtain ⟨g, q, p, eg, hg, eq, ep, hp, hc, e1, e2⟩ := gF_parts (n := n) h0
  have eF : mkF n d = ⟨mkN n d, (p : Int)⟩ := by simp only [mkF, h, if_true, e2]
  rw [e1] at h1
  rw [e2] at h2
  rw [eF]
  have hN : (mkN n d).natAbs = q := by unfold mkN; rw [e1]; split <;> omega
  refine ⟨?_, ?_, by simp; omega⟩
  · refine vF_iff.2 ⟨⟨by simp; omega, by simp; omega, by simp; omega, by simp; omega⟩, ?_⟩
    simp only [gF, hN, Int.natAbs_natCast]
    exact hc
  · simp only
    unfold mkN
    rw [e1]
    have k1 : (n.natAbs : Int) = q * g := by rw [eq]; exact Int.natCast_mul _ _
    have k2 : (d.natAbs : Int) = p * g := by rw [ep]; exact Int.natCast_mul _ _
    split
    · rcases Int.lt_or_le n 0 with hn | hn <;> rcases Int.lt_or_le d 0 with hd | hd
      · have a1 : n = -(q * g) := by omega
        have a2 : d = -(p * g) := by omega
        rw [a1, a2]; grind
      · omega
      · omega
      · have a1 : n = q * g := by omega
        have a2 : d = p * g := by omega
        rw [a1, a2]; grind
    · rcases Int.lt_or_le n 0 with hn | hn <;> rcases Int.lt_or_le d 0 with hd | hd
      · omega
      · have a1 : n = -(q * g) := by omega
        have a2 : d = p * g := by omega
        rw [a1, a2]; grind
      · have a1 : n = q * g := by omega
        have a2 : d = -(p * g) := by omega
        rw [a1, a2]; grind
      · omega
theorem mk_of {a : Fr} {n d : Int} (ha : vF a = true) (hd : d ≠ 0) (he : n * a.den = a.num * d) : mkE n d = 0 ∧ mkF n d = a := by
  obtain ⟨⟨b1, b2, b3, b4⟩, hc⟩ := vF_iff.1 ha
  obtain ⟨g, q, p, eg, hg, eq, ep, hp, hq, e1, e2⟩ := gF_parts (n := n) hd
  unfold gF at hc
  have hn : n.natAbs * a.den.natAbs = a.num.natAbs * d.natAbs := by rw [← Int.natAbs_mul, he, Int.natAbs_mul]
  rw [eq, ep] at hn
  have hn2 : q * a.den.natAbs = a.num.natAbs * p := by
    have : g * (q * a.den.natAbs) = g * (a.num.natAbs * p) := by grind
    exact Nat.eq_of_mul_eq_mul_left hg this
  -- p and the denominator divide one another
  have d1 : p ∣ a.den.natAbs := by
    have : p ∣ q * a.den.natAbs := ⟨a.num.natAbs, by rw [hn2, Nat.mul_comm]⟩
    exact Nat.Coprime.dvd_of_dvd_mul_left (by rw [Nat.coprime_iff_gcd_eq_one, Nat.gcd_comm]; exact hq) this
  have d2 : a.den.natAbs ∣ p := by
    have : a.den.natAbs ∣ a.num.natAbs * p := ⟨q, by rw [← hn2, Nat.mul_comm]⟩
    exact Nat.Coprime.dvd_of_dvd_mul_left (by rw [Nat.coprime_iff_gcd_eq_one, Nat.gcd_comm]; exact hc) this
  have ed : p = a.den.natAbs := Nat.dvd_antisymm d1 d2
  have en : q = a.num.natAbs := by
    rw [ed] at hn2
    exact Nat.eq_of_mul_eq_mul_right (by omega) hn2
  have h0 : mkE n d = 0 := by rw [mkE_eq hd, e1, e2, if_pos]; omega
  refine ⟨h0, ?_⟩
  simp only [mkF, h0, if_true, e2]
  refine fr_eq ?_ (by simp only; omega)
  simp only
  unfold mkN
  rw [e1]
  have sgn : (a.num < 0 → ¬ ((n < 0) ↔ (d < 0))) ∧ (0 < a.num → ((n < 0) ↔ (d < 0))) := by
    have hden : 0 < a.den := by omega
    constructor
    · intro hneg hiff
      rcases Int.lt_or_le d 0 with hd' | hd'
      · have hn' : n < 0 := hiff.2 hd'
        have x1 : n * a.den < 0 := Int.mul_neg_of_neg_of_pos hn' hden
        have x2 : 0 < a.num * d := Int.mul_pos_of_neg_of_neg hneg hd'
        omega
      · have hn' : ¬ n < 0 := fun h => by have := hiff.1 h; omega
        have x1 : 0 ≤ n * a.den := Int.mul_nonneg (by omega) (by omega)
        have x2 : a.num * d < 0 := Int.mul_neg_of_neg_of_pos hneg (by omega)
        omega
    · intro hpos
      rcases Int.lt_or_le d 0 with hd' | hd'
      · have x2 : a.num * d < 0 := Int.mul_neg_of_pos_of_neg hpos hd'
        refine ⟨fun _ => hd', fun _ => ?_⟩
        rcases Int.lt_or_le n 0 with hn' | hn'
        · exact hn'
        · have x1 : 0 ≤ n * a.den := Int.mul_nonneg hn' (by omega)
          omega
      · have x2 : 0 < a.num * d := Int.mul_pos hpos (by omega)
        refine ⟨fun hn' => ?_, fun h => by omega⟩
        have x1 : n * a.den < 0 := Int.mul_neg_of_neg_of_pos hn' hden
        omega
  split
  · rename_i hs
    have : ¬ a.num < 0 := fun h => sgn.1 h hs
    omega
  · rename_i hs
    have : ¬ 0 < a.num := fun h => hs (sgn.2 h)
    omega
theorem vF_unique {x y : Fr} (hx : vF x = true) (hy : vF y = true) (h : x.num * y.den = y.num * x.den) : x = y := by
  have b := (vF_iff.1 hx).1.1
  have h1 := (mk_of (n := x.num) (d := x.den) hy (by omega) h).2
  have h2 := (mk_of (n := x.num) (d := x.den) hx (by omega) rfl).2
  rw [← h1, h2]
theorem vF_mk {n d : Int} : vF (mkF n d) = decide (mkE n d = 0) := by
  by_cases h : mkE n d = 0
  · simp [h, (mk_spec h).1]
  · rw [mkF_bad h]; simp [h, vF, inF, Fr.zero]
theorem vF_zero : vF Fr.zero = false := by simp [vF, inF, Fr.zero]
/-- the reference's way to say which fractions are valid -/
theorem vF_ref {a : Fr} (h : inF a) : vF a = decide (mkF a.num a.den = a) := by
  have b := h.1
  by_cases hv : vF a = true
  · rw [hv]; simp [(mk_of hv (by omega) rfl).2]
  · have hv' : vF a = false := by simpa using hv
    rw [hv']
    symm
    simp only [decide_eq_false_iff_not]
    intro e
    by_cases h0 : mkE a.num a.den = 0
    · rw [← e] at hv
      exact hv (mk_spec h0).1
    · rw [mkF_bad h0] at e
      rw [← e] at b
      simp [Fr.zero] at b
def negF (a : Fr) : Fr := ⟨-a.num, a.den⟩
theorem vF_neg (a : Fr) : vF (negF a) = vF a := by
  have : inF (negF a) ↔ inF a := by simp only [inF, negF]; omega
  simp only [vF, gF, negF, Int.natAbs_neg]
  simp only [inF, negF] at *
  congr 1
  exact decide_eq_decide.2 this
def op2F (a b : Fr) (n d : Int) : Fr := if vF a = true ∧ vF b = true then mkF n d else Fr.zero
def op2E (a b : Fr) (n d : Int) : Int := if vF a = true ∧ vF b = true then mkE n d else 1
def addF (a b : Fr) : Fr := op2F a b (a.num * b.den + b.num * a.den) (a.den * b.den)
def addE (a b : Fr) : Int := op2E a b (a.num * b.den + b.num * a.den) (a.den * b.den)
def subF (a b : Fr) : Fr := op2F a b (a.num * b.den - b.num * a.den) (a.den * b.den)
def subE (a b : Fr) : Int := op2E a b (a.num * b.den - b.num * a.den) (a.den * b.den)
def mulF (a b : Fr) : Fr := op2F a b (a.num * b.num) (a.den * b.den)
def mulE (a b : Fr) : Int := op2E a b (a.num * b.num) (a.den * b.den)
def divF (a b : Fr) : Fr := op2F a b (a.num * b.den) (a.den * b.num)
def divE (a b : Fr) : Int := op2E a b (a.num * b.den) (a.den * b.num)
theorem op2_ok {a b : Fr} {n d : Int} (h : op2E a b n d = 0) : vF a = true ∧ vF b = true ∧ mkE n d = 0 ∧ op2F a b n d = mkF n d := by
  unfold op2E at h
  split at h
  · rename_i hv
    exact ⟨hv.1, hv.2, h, by simp [op2F, hv]⟩
  · omega
theorem op2_bad {a b : Fr} {n d : Int} (h : op2E a b n d ≠ 0) : op2F a b n d = Fr.zero := by
  unfold op2E at h
  unfold op2F
  split
  · rename_i hv
    rw [if_pos hv] at h
    exact mkF_bad h
  · rfl
theorem op2_vF {a b : Fr} {n d : Int} : vF (op2F a b n d) = decide (op2E a b n d = 0) := by
  unfold op2F op2E
  split
  · exact vF_mk
  · simp [vF_zero]
theorem op2_spec {a b : Fr} {n d : Int} (h : op2E a b n d = 0) : vF a = true ∧ vF b = true ∧ vF (op2F a b n d) = true ∧ (op2F a b n d).num * d = n * (op2F a b n d).den ∧ 0 < (op2F a b n d).den := by
  obtain ⟨h1, h2, h3, h4⟩ := op2_ok h
  rw [h4]
  exact ⟨h1, h2, mk_spec h3⟩
theorem op2_of {a b x : Fr} {n d : Int} (ha : vF a = true) (hb : vF b = true) (hx : vF x = true) (hd : d ≠ 0) (he : n * x.den = x.num * d) : op2E a b n d = 0 ∧ op2F a b n d = x := by
  have h := mk_of hx hd he
  simp [op2E, op2F, ha, hb, h]
theorem vF_den {a : Fr} (h : vF a = true) : 0 < a.den := by have := (vF_iff.1 h).1.1; omega
/-- sums and products do not depend on the order -/
theorem add_comm_ (a b : Fr) : addF a b = addF b a := by
  simp only [addF, op2F]
  rw [show a.num * b.den + b.num * a.den = b.num * a.den + a.num * b.den by omega, Int.mul_comm a.den]
  by_cases h : vF a = true <;> by_cases h' : vF b = true <;> simp [h, h']
theorem mul_comm_ (a b : Fr) : mulF a b = mulF b a := by
  simp only [mulF, op2F]
  rw [Int.mul_comm a.num, Int.mul_comm a.den]
  by_cases h : vF a = true <;> by_cases h' : vF b = true <;> simp [h, h']
theorem nz_ok {a b : Fr} {n d : Int} (h : op2F a b n d ≠ Fr.zero) : op2E a b n d = 0 := Classical.byContradiction fun h' => h (op2_bad h')
theorem ring1 {a b c : Fr} (h1 : addF (addF a b) c ≠ Fr.zero) (h2 : addF a (addF b c) ≠ Fr.zero) : addF (addF a b) c = addF a (addF b c) := by
  obtain ⟨a1, a2, a3, a4, a5⟩ := op2_spec (nz_ok h1)
  obtain ⟨b1, b2, b3, b4, b5⟩ := op2_spec (nz_ok h2)
  have s1 : addE a b = 0 := by have := op2_vF.symm.trans a1; exact of_decide_eq_true this
  have s2 : addE b c = 0 := by have := op2_vF.symm.trans b2; exact of_decide_eq_true this
  obtain ⟨c1, c2, c3, c4, c5⟩ := op2_spec s1
  obtain ⟨d1, d2, d3, d4, d5⟩ := op2_spec s2
  have k1 := vF_den c1
  have k2 := vF_den c2
  have k3 := vF_den a2
  change (addF a b).num * _ = _ * (addF a b).den at c4
  change 0 < (addF a b).den at c5
  change (addF b c).num * _ = _ * (addF b c).den at d4
  change 0 < (addF b c).den at d5
  change (addF (addF a b) c).num * _ = _ * (addF (addF a b) c).den at a4
  change (addF a (addF b c)).num * _ = _ * (addF a (addF b c)).den at b4
  refine vF_unique a3 b3 ?_
  change (addF (addF a b) c).num * (addF a (addF b c)).den = (addF a (addF b c)).num * (addF (addF a b) c).den
  generalize addF (addF a b) c = t at *
  generalize addF a (addF b c) = u at *
  generalize addF a b = s at *
  generalize addF b c = r at *
  have kk : s.den * r.den * (a.den * b.den * c.den) ≠ 0 := Int.mul_ne_zero (Int.mul_ne_zero (by omega) (by omega)) (Int.mul_ne_zero (Int.mul_ne_zero (by omega) (by omega)) (by omega))
  have t1 : s.den * (t.num * (a.den * b.den * c.den)) = s.den * ((a.num * b.den * c.den + b.num * a.den * c.den + c.num * a.den * b.den) * t.den) := by
    clear kk b4 d4; grind
  have t2 : r.den * (u.num * (a.den * b.den * c.den)) = r.den * ((a.num * b.den * c.den + b.num * a.den * c.den + c.num * a.den * b.den) * u.den) := by
    clear kk a4 c4 t1; grind
  have t1 := Int.eq_of_mul_eq_mul_left (by omega) t1
  have t2 := Int.eq_of_mul_eq_mul_left (by omega) t2
  have k4 : a.den * b.den * c.den ≠ 0 := Int.mul_ne_zero (Int.mul_ne_zero (by omega) (by omega)) (by omega)
  refine Int.eq_of_mul_eq_mul_left k4 ?_
  clear a4 b4 c4 d4 kk k4
  grind
theorem ring2 {a b c : Fr} (h1 : mulF (mulF a b) c ≠ Fr.zero) (h2 : mulF a (mulF b c) ≠ Fr.zero) : mulF (mulF a b) c = mulF a (mulF b c) := by
  obtain ⟨a1, a2, a3, a4, a5⟩ := op2_spec (nz_ok h1)
  obtain ⟨b1, b2, b3, b4, b5⟩ := op2_spec (nz_ok h2)
  have s1 : mulE a b = 0 := by have := op2_vF.symm.trans a1; exact of_decide_eq_true this
  have s2 : mulE b c = 0 := by have := op2_vF.symm.trans b2; exact of_decide_eq_true this
  obtain ⟨c1, c2, c3, c4, c5⟩ := op2_spec s1
  obtain ⟨d1, d2, d3, d4, d5⟩ := op2_spec s2
  have k1 := vF_den c1
  have k2 := vF_den c2
  have k3 := vF_den a2
  change (mulF a b).num * _ = _ * (mulF a b).den at c4
  change 0 < (mulF a b).den at c5
  change (mulF b c).num * _ = _ * (mulF b c).den at d4
  change 0 < (mulF b c).den at d5
  change (mulF (mulF a b) c).num * _ = _ * (mulF (mulF a b) c).den at a4
  change (mulF a (mulF b c)).num * _ = _ * (mulF a (mulF b c)).den at b4
  refine vF_unique a3 b3 ?_
  change (mulF (mulF a b) c).num * (mulF a (mulF b c)).den = (mulF a (mulF b c)).num * (mulF (mulF a b) c).den
  generalize mulF (mulF a b) c = t at *
  generalize mulF a (mulF b c) = u at *
  generalize mulF a b = s at *
  generalize mulF b c = r at *
  have t1 : s.den * (t.num * (a.den * b.den * c.den)) = s.den * ((a.num * b.num * c.num) * t.den) := by
    clear b4 d4; grind
  have t2 : r.den * (u.num * (a.den * b.den * c.den)) = r.den * ((a.num * b.num * c.num) * u.den) := by
    clear a4 c4 t1; grind
  have t1 := Int.eq_of_mul_eq_mul_left (by omega) t1
  have t2 := Int.eq_of_mul_eq_mul_left (by omega) t2
  have k4 : a.den * b.den * c.den ≠ 0 := Int.mul_ne_zero (Int.mul_ne_zero (by omega) (by omega)) (by omega)
  refine Int.eq_of_mul_eq_mul_left k4 ?_
  clear a4 b4 c4 d4 k4
  grind
theorem ring3 {a b c : Fr} (h1 : mulF a (addF b c) ≠ Fr.zero) (h2 : addF (mulF a b) (mulF a c) ≠ Fr.zero) : mulF a (addF b c) = addF (mulF a b) (mulF a c) := by
  obtain ⟨a1, a2, a3, a4, a5⟩ := op2_spec (nz_ok h1)
  obtain ⟨b1, b2, b3, b4, b5⟩ := op2_spec (nz_ok h2)
  have s1 : addE b c = 0 := by have := op2_vF.symm.trans a2; exact of_decide_eq_true this
  have s2 : mulE a b = 0 := by have := op2_vF.symm.trans b1; exact of_decide_eq_true this
  have s3 : mulE a c = 0 := by have := op2_vF.symm.trans b2; exact of_decide_eq_true this
  obtain ⟨c1, c2, c3, c4, c5⟩ := op2_spec s1
  obtain ⟨d1, d2, d3, d4, d5⟩ := op2_spec s2
  obtain ⟨e1, e2, e3, e4, e5⟩ := op2_spec s3
  have k1 := vF_den d1
  have k2 := vF_den c1
  have k3 := vF_den c2
  change (addF b c).num * _ = _ * (addF b c).den at c4
  change 0 < (addF b c).den at c5
  change (mulF a b).num * _ = _ * (mulF a b).den at d4
  change 0 < (mulF a b).den at d5
  change (mulF a c).num * _ = _ * (mulF a c).den at e4
  change 0 < (mulF a c).den at e5
  change (mulF a (addF b c)).num * _ = _ * (mulF a (addF b c)).den at a4
  change (addF (mulF a b) (mulF a c)).num * _ = _ * (addF (mulF a b) (mulF a c)).den at b4
  refine vF_unique a3 b3 ?_
  change (mulF a (addF b c)).num * (addF (mulF a b) (mulF a c)).den = (addF (mulF a b) (mulF a c)).num * (mulF a (addF b c)).den
  generalize mulF a (addF b c) = t at *
  generalize addF (mulF a b) (mulF a c) = u at *
  generalize addF b c = r at *
  generalize mulF a b = p at *
  generalize mulF a c = q at *
  have t1 : r.den * (t.num * (a.den * b.den * c.den)) = r.den * (a.num * (b.num * c.den + c.num * b.den) * t.den) := by
    clear b4 d4 e4; grind
  have t2 : p.den * q.den * (a.den * (u.num * (a.den * b.den * c.den))) = p.den * q.den * (a.den * (a.num * (b.num * c.den + c.num * b.den) * u.den)) := by
    clear a4 c4 t1; grind
  have t1 := Int.eq_of_mul_eq_mul_left (by omega) t1
  have t2 := Int.eq_of_mul_eq_mul_left (Int.mul_ne_zero (by omega) (by omega)) t2
  have t2 := Int.eq_of_mul_eq_mul_left (by omega) t2
  have k4 : a.den * b.den * c.den ≠ 0 := Int.mul_ne_zero (Int.mul_ne_zero (by omega) (by omega)) (by omega)
  refine Int.eq_of_mul_eq_mul_left k4 ?_
  clear a4 b4 c4 d4 e4 k4
  grind
/-- differences undo sums, quotients products -/
theorem undo1 {a b : Fr} (h : addE a b = 0) : subE (addF a b) b = 0 ∧ subF (addF a b) b = a := by
  obtain ⟨a1, a2, a3, a4, a5⟩ := op2_spec h
  have k1 := vF_den a1
  have k2 := vF_den a2
  refine op2_of a3 a2 a1 (Int.mul_ne_zero (by change 0 < (addF a b).den at a5; change (addF a b).den ≠ 0; omega) (by omega)) ?_
  change (addF a b).num * _ = _ * (addF a b).den at a4
  change ((addF a b).num * b.den - b.num * (addF a b).den) * a.den = a.num * ((addF a b).den * b.den)
  generalize addF a b = s at *
  grind
theorem undo2 {a b : Fr} (h : mulE a b = 0) (h0 : b.num ≠ 0) : divE (mulF a b) b = 0 ∧ divF (mulF a b) b = a := by
  obtain ⟨a1, a2, a3, a4, a5⟩ := op2_spec h
  have k1 := vF_den a1
  have k2 := vF_den a2
  refine op2_of a3 a2 a1 (Int.mul_ne_zero (by change 0 < (mulF a b).den at a5; change (mulF a b).den ≠ 0; omega) h0) ?_
  change (mulF a b).num * _ = _ * (mulF a b).den at a4
  change ((mulF a b).num * b.den) * a.den = a.num * ((mulF a b).den * b.num)
  generalize mulF a b = s at *
  grind
/-- the order -/
def cmpD (a b : Fr) : Int := a.num * b.den - b.num * a.den
def cmpF (a b : Fr) : Int := if cmpD a b < 0 then -1 else if 0 < cmpD a b then 1 else 0
theorem cmp_swap (a b : Fr) : cmpF a b = -cmpF b a := by
  have e : cmpD b a = -cmpD a b := by unfold cmpD; omega
  unfold cmpF
  rw [e]
  generalize cmpD a b = x
  by_cases h : x < 0
  · rw [if_pos h, if_neg (by omega), if_pos (by omega)]
  · by_cases h' : 0 < x
    · rw [if_neg h, if_pos h', if_pos (by omega)]; rfl
    · rw [if_neg h, if_neg h', if_neg (by omega), if_neg (by omega)]; rfl
theorem cmp_zero {a b : Fr} (ha : vF a = true) (hb : vF b = true) : (cmpF a b = 0) ↔ a = b := by
  constructor
  · intro h
    refine vF_unique ha hb ?_
    have e : cmpD a b = 0 := by
      unfold cmpF at h
      generalize cmpD a b = x at *
      by_cases h1 : x < 0
      · rw [if_pos h1] at h; omega
      · by_cases h2 : 0 < x
        · rw [if_neg h1, if_pos h2] at h; omega
        · omega
    unfold cmpD at e
    omega
  · rintro rfl
    simp [cmpF, cmpD]
theorem cmp_pos {a b x y : Fr} {k m : Int} (hk : 0 < k) (hm : 0 < m) (h : k * cmpD x y = m * cmpD a b) : cmpF x y = cmpF a b := by
  unfold cmpF
  rcases Int.lt_trichotomy (cmpD a b) 0 with h1 | h1 | h1
  · have := Int.mul_neg_of_pos_of_neg hm h1
    have : cmpD x y < 0 := by
      rcases Int.lt_or_le (cmpD x y) 0 with h2 | h2
      · exact h2
      · have := Int.mul_nonneg (Int.le_of_lt hk) h2; omega
    simp [h1, this]
  · rw [h1] at h
    have : cmpD x y = 0 := by
      have e : k * cmpD x y = 0 := by rw [h]; simp
      rcases Int.mul_eq_zero.1 e with h2 | h2 <;> omega
    simp [h1, this]
  · have := Int.mul_pos hm h1
    have : 0 < cmpD x y := by
      rcases Int.lt_or_le 0 (cmpD x y) with h2 | h2
      · exact h2
      · have := Int.mul_nonpos_of_nonneg_of_nonpos (Int.le_of_lt hk) h2; omega
    rw [if_neg (by omega), if_pos this, if_neg (by omega), if_pos h1]
theorem grow1 {a b c : Fr} (h1 : addE a c = 0) (h2 : addE b c = 0) : cmpF (addF a c) (addF b c) = cmpF a b := by
  obtain ⟨a1, a2, a3, a4, a5⟩ := op2_spec h1
  obtain ⟨b1, b2, b3, b4, b5⟩ := op2_spec h2
  have k1 := vF_den a1
  have k2 := vF_den b1
  have k3 := vF_den a2
  change (addF a c).num * _ = _ * (addF a c).den at a4
  change 0 < (addF a c).den at a5
  change (addF b c).num * _ = _ * (addF b c).den at b4
  change 0 < (addF b c).den at b5
  generalize addF a c = x at *
  generalize addF b c = y at *
  refine cmp_pos (k := a.den * b.den * c.den) (m := x.den * y.den * c.den) (Int.mul_pos (Int.mul_pos k1 k2) k3) (Int.mul_pos (Int.mul_pos a5 b5) k3) ?_
  unfold cmpD
  refine Int.eq_of_mul_eq_mul_left (show c.den ≠ 0 by omega) ?_
  grind
theorem grow2 {a b c : Fr} (h1 : mulE a c = 0) (h2 : mulE b c = 0) (h0 : 0 < c.num) : cmpF (mulF a c) (mulF b c) = cmpF a b := by
  obtain ⟨a1, a2, a3, a4, a5⟩ := op2_spec h1
  obtain ⟨b1, b2, b3, b4, b5⟩ := op2_spec h2
  have k1 := vF_den a1
  have k2 := vF_den b1
  have k3 := vF_den a2
  change (mulF a c).num * _ = _ * (mulF a c).den at a4
  change 0 < (mulF a c).den at a5
  change (mulF b c).num * _ = _ * (mulF b c).den at b4
  change 0 < (mulF b c).den at b5
  generalize mulF a c = x at *
  generalize mulF b c = y at *
  refine cmp_pos (k := a.den * b.den * c.den) (m := x.den * y.den * c.num) (Int.mul_pos (Int.mul_pos k1 k2) k3) (Int.mul_pos (Int.mul_pos a5 b5) h0) ?_
  unfold cmpD
  refine Int.eq_of_mul_eq_mul_left (show c.den ≠ 0 by omega) ?_
  grind
/-- floors and ceilings -/
def flF (a : Fr) : Int := a.num / a.den
def ceF (a : Fr) : Int := -flF (negF a)
theorem fl_spec {a : Fr} (h : vF a = true) : flF a * a.den ≤ a.num ∧ a.num < (flF a + 1) * a.den ∧ -1073741824 ≤ flF a ∧ flF a ≤ 1073741824 := by
  obtain ⟨b1, b2, b3, b4⟩ := (vF_iff.1 h).1
  have h1 := Int.mul_ediv_add_emod a.num a.den
  have h2 := Int.emod_nonneg a.num (show a.den ≠ 0 by omega)
  have h3 := Int.emod_lt_of_pos a.num (show 0 < a.den by omega)
  unfold flF
  refine ⟨by grind, by grind, ?_, ?_⟩
  · refine (Int.le_ediv_iff_mul_le (by omega)).2 ?_
    have : (1073741824 : Int) * 1 ≤ 1073741824 * a.den := Int.mul_le_mul_of_nonneg_left b1 (by decide)
    omega
  · refine Int.ediv_le_of_le_mul (by omega) ?_
    have : (1073741824 : Int) * 1 ≤ 1073741824 * a.den := Int.mul_le_mul_of_nonneg_left b1 (by decide)
    omega
theorem ce_spec {a : Fr} (h : vF a = true) : a.num ≤ ceF a * a.den ∧ (ceF a - 1) * a.den < a.num ∧ -1073741824 ≤ ceF a ∧ ceF a ≤ 1073741824 := by
  have := fl_spec (a := negF a) (by rw [vF_neg]; exact h)
  unfold ceF
  simp only [negF] at *
  generalize flF ⟨-a.num, a.den⟩ = f at *
  obtain ⟨c1, c2, c3, c4⟩ := this
  refine ⟨by grind, by grind, by omega, by omega⟩
theorem floors {a : Fr} (h : vF a = true) : (flF a = ceF a ∧ a.den = 1) ∨ (flF a + 1 = ceF a ∧ 1 < a.den) := by
  obtain ⟨b1, b2, b3, b4⟩ := fl_spec h
  obtain ⟨c1, c2, c3, c4⟩ := ce_spec h
  obtain ⟨⟨d1, d2, d3, d4⟩, hg⟩ := vF_iff.1 h
  generalize flF a = f at *
  generalize ceF a = c at *
  have l1 : f ≤ c := by
    rcases Int.lt_or_le c f with x | x
    · have : c * a.den < f * a.den := Int.mul_lt_mul_of_pos_right x (by omega); omega
    · exact x
  have l2 : c < f + 2 := by
    rcases Int.lt_or_le (c - 1) (f + 1) with x | x
    · omega
    · have := Int.mul_le_mul_of_nonneg_right x (show 0 ≤ a.den by omega); omega
  have e1 : a.den = 1 → f = c := by
    intro e
    rw [e] at b1 b2 c1 c2
    omega
  have e2 : f = c → a.den = 1 := by
    intro e
    subst e
    have en : a.num = f * a.den := by omega
    have : a.den.natAbs ∣ gF a.num a.den := Nat.dvd_gcd (by rw [en, Int.natAbs_mul]; exact Nat.dvd_mul_left _ _) (Nat.dvd_refl _)
    rw [hg] at this
    have := Nat.le_of_dvd (by omega) this
    omega
  by_cases e : f = c
  · exact .inl ⟨e, e2 e⟩
  · exact .inr ⟨by omega, by have : a.den ≠ 1 := fun h => e (e1 h); omega⟩
end Go.Proofs.YtaaadejamjbcbaaDoor
