/- Products and multiples of spans: the least and greatest of four, plain facts. -/
import Derived.Test.YtgflgnbbkhikcaaDoorSpPointsP
import Derived.Test.YtgflgnbbkhikcaaDoorSpQuo
import Derived.Test.YtgflgnbbkhikcaaDoorRf3Q
namespace Go.Proofs.YtgflgnbbkhikcaaDoor

theorem fdv_dn {x y : Int} (h : y ≠ 0) : fdv x y = dn x y := by
  rcases Int.lt_or_le y 0 with h1 | h1
  · have e := fdv_pos (x := -x) (y := -y) (by omega)
    unfold dn
    rw [if_pos h1, ← e]
    unfold fdv
    rw [Int.natAbs_neg, Int.natAbs_neg]
    by_cases z : x = 0
    · subst z; simp
    · by_cases s : x < 0
      · rw [if_pos (by omega : x < 0 ↔ y < 0), if_pos (by omega : -x < 0 ↔ -y < 0)]
      · rw [if_neg (by omega : ¬ (x < 0 ↔ y < 0)), if_neg (by omega : ¬ (-x < 0 ↔ -y < 0))]
  · rw [fdv_pos (by omega)]
    unfold dn
    rw [if_neg (by omega)]
theorem cdv_up {x y : Int} (h : y ≠ 0) : cdv x y = up x y := by unfold cdv up; rw [fdv_dn h]
def Tr.D (t : Tr) : Int := dn (t.x * t.y) t.z
def Tr.U (t : Tr) : Int := up (t.x * t.y) t.z
theorem tr_er {t : Tr} (h : t.z ≠ 0) : (t.er = 0 ∧ t.lo = t.D ∧ t.hi = t.U) ∨ (t.er ≠ 0 ∧ (t.D < -9223372036854775808 ∨ 9223372036854775807 < t.U)) := by
  have du : t.D ≤ t.U := dn_le_up h
  rcases scE_cases t.x t.y t.z h with ⟨e1, _, _, e4, e5⟩ | ⟨e1, e2, _⟩ | ⟨_, e1, e2, _⟩
  · exact .inl ⟨e1, e4, e5⟩
  · refine .inr ⟨by show scE _ _ _ ≠ 0; omega, ?_⟩
    have : ¬ (-9223372036854775808 ≤ t.D ∧ t.D ≤ 9223372036854775807) := of_decide_eq_false e1
    omega
  · refine .inr ⟨by show scE _ _ _ ≠ 0; omega, ?_⟩
    have : ¬ (-9223372036854775808 ≤ t.U ∧ t.U ≤ 9223372036854775807) := of_decide_eq_false e1
    omega
theorem s4_res {a b c d : Tr} (ha : a.z ≠ 0) (hb : b.z ≠ 0) (hc : c.z ≠ 0) (hd : d.z ≠ 0) : s4E a b c d = resE (p4 a.D b.D c.D d.D) (P4 a.U b.U c.U d.U) ∧ s4S a b c d = resS (p4 a.D b.D c.D d.D) (P4 a.U b.U c.U d.U) := by
  by_cases h : Ok4 a b c d
  · obtain ⟨e1, e2⟩ := s4_yes h
    obtain ⟨h1, h2, h3, h4⟩ := h
    obtain ⟨_, a1, a2⟩ := (tr_er ha).resolve_right (fun x => x.1 h1)
    obtain ⟨_, b1, b2⟩ := (tr_er hb).resolve_right (fun x => x.1 h2)
    obtain ⟨_, c1, c2⟩ := (tr_er hc).resolve_right (fun x => x.1 h3)
    obtain ⟨_, d1, d2⟩ := (tr_er hd).resolve_right (fun x => x.1 h4)
    rw [e1, e2]
    unfold lo4 hi4 p4 P4
    rw [a1, a2, b1, b2, c1, c2, d1, d2]
    exact ⟨rfl, rfl⟩
  · obtain ⟨e1, e2⟩ := s4_no h
    have hx : ¬ (fitB (p4 a.D b.D c.D d.D) = true ∧ fitB (P4 a.U b.U c.U d.U) = true) := by
      rw [fitB_iff, fitB_iff]
      intro k
      unfold p4 P4 at k
      refine h ⟨?_, ?_, ?_, ?_⟩
      · rcases tr_er ha with x | x
        · exact x.1
        · have := x.2; omega
      · rcases tr_er hb with x | x
        · exact x.1
        · have := x.2; omega
      · rcases tr_er hc with x | x
        · exact x.1
        · have := x.2; omega
      · rcases tr_er hd with x | x
        · exact x.1
        · have := x.2; omega
    rw [e1, e2]
    unfold resE resS
    rw [if_neg hx, if_neg hx]
    exact ⟨rfl, rfl⟩
/-- a pair's ends with one more number -/
def mn (x z : Int) : Int := if z < x then z else x
def mx (x z : Int) : Int := if x < z then z else x
def mul4 (a b : Sp) : Int × Int := (mn (mn (mn (a.lo * b.lo) (a.lo * b.hi)) (a.hi * b.lo)) (a.hi * b.hi), mx (mx (mx (a.lo * b.lo) (a.lo * b.hi)) (a.hi * b.lo)) (a.hi * b.hi))
theorem mul4_res (a b : Sp) : s4E ⟨a.lo, b.lo, 1⟩ ⟨a.lo, b.hi, 1⟩ ⟨a.hi, b.lo, 1⟩ ⟨a.hi, b.hi, 1⟩ = resE (mul4 a b).1 (mul4 a b).2 ∧ s4S ⟨a.lo, b.lo, 1⟩ ⟨a.lo, b.hi, 1⟩ ⟨a.hi, b.lo, 1⟩ ⟨a.hi, b.hi, 1⟩ = resS (mul4 a b).1 (mul4 a b).2 := by
  obtain ⟨e1, e2⟩ := s4_res (a := ⟨a.lo, b.lo, 1⟩) (b := ⟨a.lo, b.hi, 1⟩) (c := ⟨a.hi, b.lo, 1⟩) (d := ⟨a.hi, b.hi, 1⟩) Int.one_ne_zero Int.one_ne_zero Int.one_ne_zero Int.one_ne_zero
  have m1 : p4 (Tr.D ⟨a.lo, b.lo, 1⟩) (Tr.D ⟨a.lo, b.hi, 1⟩) (Tr.D ⟨a.hi, b.lo, 1⟩) (Tr.D ⟨a.hi, b.hi, 1⟩) = (mul4 a b).1 := by
    unfold Tr.D
    show p4 (dn (a.lo * b.lo) 1) (dn (a.lo * b.hi) 1) (dn (a.hi * b.lo) 1) (dn (a.hi * b.hi) 1) = mn (mn (mn (a.lo * b.lo) (a.lo * b.hi)) (a.hi * b.lo)) (a.hi * b.hi)
    rw [dn_one, dn_one, dn_one, dn_one]
    generalize a.lo * b.lo = p
    generalize a.lo * b.hi = q
    generalize a.hi * b.lo = r
    generalize a.hi * b.hi = s
    unfold p4 mn
    split <;> split <;> split <;> omega
  have m2 : P4 (Tr.U ⟨a.lo, b.lo, 1⟩) (Tr.U ⟨a.lo, b.hi, 1⟩) (Tr.U ⟨a.hi, b.lo, 1⟩) (Tr.U ⟨a.hi, b.hi, 1⟩) = (mul4 a b).2 := by
    unfold Tr.U
    show P4 (up (a.lo * b.lo) 1) (up (a.lo * b.hi) 1) (up (a.hi * b.lo) 1) (up (a.hi * b.hi) 1) = mx (mx (mx (a.lo * b.lo) (a.lo * b.hi)) (a.hi * b.lo)) (a.hi * b.hi)
    rw [up_one, up_one, up_one, up_one]
    generalize a.lo * b.lo = p
    generalize a.lo * b.hi = q
    generalize a.hi * b.lo = r
    generalize a.hi * b.hi = s
    unfold P4 mx
    split <;> split <;> split <;> omega
  rw [e1, e2, m1, m2]
  exact ⟨rfl, rfl⟩
def tim4 (a : Sp) (m d : Int) : Int × Int := (mn (mn (dn (a.lo * m) d) (dn (a.hi * m) d)) (up (a.hi * m) d), mx (mx (up (a.lo * m) d) (dn (a.hi * m) d)) (up (a.hi * m) d))
theorem tim4_res (a : Sp) (m : Int) {d : Int} (hd : d ≠ 0) : s4E ⟨a.lo, m, d⟩ ⟨a.lo, m, d⟩ ⟨a.hi, m, d⟩ ⟨a.hi, m, d⟩ = resE (tim4 a m d).1 (tim4 a m d).2 ∧ s4S ⟨a.lo, m, d⟩ ⟨a.lo, m, d⟩ ⟨a.hi, m, d⟩ ⟨a.hi, m, d⟩ = resS (tim4 a m d).1 (tim4 a m d).2 := by
  obtain ⟨e1, e2⟩ := s4_res (a := ⟨a.lo, m, d⟩) (b := ⟨a.lo, m, d⟩) (c := ⟨a.hi, m, d⟩) (d := ⟨a.hi, m, d⟩) hd hd hd hd
  have u1 := dn_le_up (n := a.lo * m) hd
  have u2 := dn_le_up (n := a.hi * m) hd
  have m1 : p4 (Tr.D ⟨a.lo, m, d⟩) (Tr.D ⟨a.lo, m, d⟩) (Tr.D ⟨a.hi, m, d⟩) (Tr.D ⟨a.hi, m, d⟩) = (tim4 a m d).1 := by
    show p4 (dn (a.lo * m) d) (dn (a.lo * m) d) (dn (a.hi * m) d) (dn (a.hi * m) d) = mn (mn (dn (a.lo * m) d) (dn (a.hi * m) d)) (up (a.hi * m) d)
    generalize dn (a.lo * m) d = p at *
    generalize dn (a.hi * m) d = q at *
    generalize up (a.hi * m) d = r at *
    unfold p4 mn
    split <;> split <;> omega
  have m2 : P4 (Tr.U ⟨a.lo, m, d⟩) (Tr.U ⟨a.lo, m, d⟩) (Tr.U ⟨a.hi, m, d⟩) (Tr.U ⟨a.hi, m, d⟩) = (tim4 a m d).2 := by
    show P4 (up (a.lo * m) d) (up (a.lo * m) d) (up (a.hi * m) d) (up (a.hi * m) d) = mx (mx (up (a.lo * m) d) (dn (a.hi * m) d)) (up (a.hi * m) d)
    generalize up (a.lo * m) d = p at *
    generalize dn (a.hi * m) d = q at *
    generalize up (a.hi * m) d = r at *
    unfold P4 mx
    split <;> split <;> omega
  rw [e1, e2, m1, m2]
  exact ⟨rfl, rfl⟩
end Go.Proofs.YtgflgnbbkhikcaaDoor
