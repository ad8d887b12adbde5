/- SpanLeast: no span is wider than it must be: plain facts. -/
import Derived.Test.YtgflgnbbkhikcaaDoorSpPointsL
import Derived.Test.YtgflgnbbkhikcaaDoorOwn4
namespace Go.Proofs.YtgflgnbbkhikcaaDoor
open Go.RowKit

def xj (a : Sp) (j : Nat) : Int := if j < 2 then a.lo else a.hi
def yj (b : Sp) (j : Nat) : Int := if j % 2 = 0 then b.lo else b.hi
/-- the j-th pair of ends hits -/
def Hit (a b : Sp) (m : Int) (j : Nat) : Prop := xj a j * yj b j = m
def HitB (s : Int) (a b : Sp) (q : Int) (j : Nat) : Prop := q * (s * yj b j) ≤ s * xj a j ∧ s * xj a j < (q + 1) * (s * yj b j)
def HitA (s : Int) (a b : Sp) (q : Int) (j : Nat) : Prop := s * xj a j ≤ q * (s * yj b j) ∧ (q - 1) * (s * yj b j) < s * xj a j
theorem some_hit (a b : Sp) : (∃ j, j < 4 ∧ Hit a b (m4 a b) j) ∧ (∃ j, j < 4 ∧ Hit a b (M4 a b) j) := by
  have h1 : m4 a b = a.lo * b.lo ∨ m4 a b = a.lo * b.hi ∨ m4 a b = a.hi * b.lo ∨ m4 a b = a.hi * b.hi := by unfold m4 p4; omega
  have h2 : M4 a b = a.lo * b.lo ∨ M4 a b = a.lo * b.hi ∨ M4 a b = a.hi * b.lo ∨ M4 a b = a.hi * b.hi := by unfold M4 P4; omega
  constructor
  · rcases h1 with h | h | h | h
    · exact ⟨0, by omega, h.symm⟩
    · exact ⟨1, by omega, h.symm⟩
    · exact ⟨2, by omega, h.symm⟩
    · exact ⟨3, by omega, h.symm⟩
  · rcases h2 with h | h | h | h
    · exact ⟨0, by omega, h.symm⟩
    · exact ⟨1, by omega, h.symm⟩
    · exact ⟨2, by omega, h.symm⟩
    · exact ⟨3, by omega, h.symm⟩
theorem hitB_of {s : Int} (hs : s = 1 ∨ s = -1) {a b : Sp} {j : Nat} (h : 0 < s * yj b j) : HitB s a b (dn (xj a j) (yj b j)) j := by
  have e : dn (xj a j) (yj b j) = dn (s * xj a j) (s * yj b j) := by
    rcases hs with rfl | rfl
    · rw [Int.one_mul, Int.one_mul]
    · rw [dn_neg _ _ (by omega), Int.neg_mul, Int.neg_mul, Int.one_mul, Int.one_mul]
  unfold HitB
  rw [e]
  exact dn_bd h
theorem hitA_of {s : Int} (hs : s = 1 ∨ s = -1) {a b : Sp} {j : Nat} (h : 0 < s * yj b j) : HitA s a b (up (xj a j) (yj b j)) j := by
  have e : up (xj a j) (yj b j) = up (s * xj a j) (s * yj b j) := by
    rcases hs with rfl | rfl
    · rw [Int.one_mul, Int.one_mul]
    · unfold up; rw [dn_neg _ _ (by omega), Int.neg_mul, Int.neg_mul, Int.one_mul, Int.one_mul]
  unfold HitA
  rw [e]
  exact up_bd h
theorem some_hitQ {s : Int} (hs : s = 1 ∨ s = -1) {a b : Sp} (h1 : 0 < s * b.lo) (h2 : 0 < s * b.hi) : (∃ j, j < 4 ∧ HitB s a b (qLo a b) j) ∧ (∃ j, j < 4 ∧ HitA s a b (qHi a b) j) := by
  have e1 : qLo a b = dn a.lo b.lo ∨ qLo a b = dn a.lo b.hi ∨ qLo a b = dn a.hi b.lo ∨ qLo a b = dn a.hi b.hi := by unfold qLo; omega
  have e2 : qHi a b = up a.lo b.lo ∨ qHi a b = up a.lo b.hi ∨ qHi a b = up a.hi b.lo ∨ qHi a b = up a.hi b.hi := by unfold qHi; omega
  constructor
  · rcases e1 with h | h | h | h <;> rw [h]
    · exact ⟨0, by omega, hitB_of (j := 0) hs h1⟩
    · exact ⟨1, by omega, hitB_of (j := 1) hs h2⟩
    · exact ⟨2, by omega, hitB_of (j := 2) hs h1⟩
    · exact ⟨3, by omega, hitB_of (j := 3) hs h2⟩
  · rcases e2 with h | h | h | h <;> rw [h]
    · exact ⟨0, by omega, hitA_of (j := 0) hs h1⟩
    · exact ⟨1, by omega, hitA_of (j := 1) hs h2⟩
    · exact ⟨2, by omega, hitA_of (j := 2) hs h1⟩
    · exact ⟨3, by omega, hitA_of (j := 3) hs h2⟩
/-- whatever has hit so far is known -/
def Sofar (P : Nat → Prop) (K : Nat) (x : Bool) : Prop := ∀ j, j < K → P j → x = true
theorem Sofar.zero (P : Nat → Prop) (x : Bool) : Sofar P 0 x := fun j h => absurd h (by omega)
theorem Sofar.yes (P : Nat → Prop) (K : Nat) : Sofar P K true := fun _ _ _ => rfl
theorem Sofar.no {P : Nat → Prop} {K : Nat} (h : Sofar P K false) (hn : ¬ P K) : Sofar P (K + 1) false := fun j hj hp => by
  rcases Nat.lt_or_ge j K with k | k
  · exact h j k hp
  · have : j = K := by omega
    subst this
    exact absurd hp hn
theorem Sofar.end_ {P : Nat → Prop} {K : Nat} {x : Bool} (h : Sofar P K x) (he : ∃ j, j < K ∧ P j) : x = true := by
  obtain ⟨j, hj, hp⟩ := he
  exact h j hj hp
theorem root_least {n : Int} (h : 0 ≤ n) : n < (isq n + 1) * (isq n + 1) ∧ (0 < isqU n → (isqU n - 1) * (isqU n - 1) < n) := by
  obtain ⟨k0, k1, k2⟩ := isq_bd h
  refine ⟨k2, fun hp => ?_⟩
  unfold isqU at hp ⊢
  split at hp
  · rename_i hl
    rw [if_pos hl, show isq n + 1 - 1 = isq n by omega]
    exact hl
  · rename_i hl
    rw [if_neg hl]
    have : (isq n - 1) * (isq n - 1) < isq n * isq n := by
      have e : (isq n - 1) * (isq n - 1) = isq n * isq n - isq n - isq n + 1 := by
        rw [Int.sub_mul, Int.mul_sub]; omega
      omega
    omega

end Go.Proofs.YtgflgnbbkhikcaaDoor
