/- Decimal integers without sign of at most nine digits (chapter 15): what the program and the reference read; plain facts. -/
import Derived.Test.YtnhimgabcljahaaGreatDoorTxW0
namespace Go.Proofs.YtnhimgabcljahaaGreatDoor
open Go Go.Lib

/-- the program's number -/
def nuB (l : List UInt8) : Bool := atB l && decide (l.length ≤ 9) && decide (itoa (atV l) = l) && decide (0 ≤ atV l)
/-- the reference's Number -/
def rnB (l : List UInt8) : Bool := decide (1 ≤ l.length) && decide (l.length ≤ 9) && !(decide (1 < l.length) && decide (l.head? = some 48)) && l.all fun c => decide (48 ≤ c.toNat ∧ c.toNat ≤ 57)
theorem all_dg {l : List UInt8} : (l.all fun c => decide (48 ≤ c.toNat ∧ c.toNat ≤ 57)) = true ↔ ∀ c ∈ l, isDg c := by
  simp only [List.all_eq_true, decide_eq_true_eq]
  exact Iff.rfl
theorem head_48 (l : List UInt8) : l.head? = some 48 ↔ l.head?.map UInt8.toNat = some 48 := by
  cases l with
  | nil => simp
  | cons c r =>
    simp only [List.head?_cons, Option.map_some, Option.some.injEq]
    exact ⟨fun h => by rw [h]; rfl, fun h => UInt8.toNat_inj.1 (by rw [h]; rfl)⟩
theorem rn_facts {l : List UInt8} (h : rnB l = true) : (∀ c ∈ l, isDg c) ∧ l ≠ [] ∧ l.length ≤ 9 ∧ (1 < l.length → l.head?.map UInt8.toNat ≠ some 48) := by
  unfold rnB at h
  simp only [Bool.and_eq_true, decide_eq_true_eq, Bool.not_eq_true', Bool.and_eq_false_iff, decide_eq_false_iff_not] at h
  obtain ⟨⟨⟨h1, h2⟩, h3⟩, h4⟩ := h
  refine ⟨all_dg.1 h4, fun e => by rw [e] at h1; simp at h1, h2, fun h5 e => ?_⟩
  rcases h3 with h3 | h3
  · exact h3 h5
  · exact h3 ((head_48 l).2 e)
theorem rn_val {l : List UInt8} (h : rnB l = true) : valL 0 l < 1000000000 := by
  obtain ⟨h1, _, h3, _⟩ := rn_facts h
  have h4 := valL_lt l h1 0
  have h5 : 10 ^ l.length ≤ 10 ^ 9 := Nat.pow_le_pow_right (by decide) h3
  have : (10 : Nat) ^ 9 = 1000000000 := by decide
  omega
theorem num_same (l : List UInt8) : nuB l = rnB l ∧ (rnB l = true → atV l = (valL 0 l : Nat)) := by
  have back : rnB l = true → nuB l = true ∧ atV l = (valL 0 l : Nat) := fun h => by
    obtain ⟨h1, h2, h3, h4⟩ := rn_facts h
    have hv := rn_val h
    obtain ⟨a1, a2⟩ := at_ok (atoi_digits l h1 h2 (by omega))
    refine ⟨?_, a1⟩
    unfold nuB
    rw [a2, a1, itoa_nat, dec_valL l h1 h2 h4]
    simp [h3]
  refine ⟨Bool.eq_iff_iff.2 ⟨fun h => ?_, fun h => (back h).1⟩, fun h => (back h).2⟩
  unfold nuB at h
  simp only [Bool.and_eq_true, decide_eq_true_eq] at h
  obtain ⟨⟨⟨_, h2⟩, h3⟩, h4⟩ := h
  have e : l = decDigits (atV l).toNat := by rw [← itoa_pos h4]; exact h3.symm
  have hd : ∀ c ∈ l, isDg c := by rw [e]; exact dec_dg _
  have hn : l ≠ [] := by rw [e]; exact dec_ne _
  have hz : 1 < l.length → l.head?.map UInt8.toNat ≠ some 48 := fun h => by
    rw [e] at h ⊢
    exact dec_head (dec_len1 h)
  unfold rnB
  simp only [Bool.and_eq_true, decide_eq_true_eq, Bool.not_eq_true', Bool.and_eq_false_iff, decide_eq_false_iff_not]
  refine ⟨⟨⟨List.length_pos_iff.2 hn, h2⟩, ?_⟩, all_dg.2 hd⟩
  by_cases h5 : 1 < l.length
  · exact .inr fun h6 => hz h5 ((head_48 l).1 h6)
  · exact .inl h5
end Go.Proofs.YtnhimgabcljahaaGreatDoor
