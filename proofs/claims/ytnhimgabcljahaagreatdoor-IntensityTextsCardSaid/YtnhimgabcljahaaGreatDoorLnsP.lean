/- Texts by lines, and decimal numbers of at most nine digits in them; plain facts. -/
import Derived.Test.YtnhimgabcljahaaGreatDoorNumP
import Derived.Test.YtnhimgabcljahaaGreatDoorPtsP
namespace Go.Proofs.YtnhimgabcljahaaGreatDoor
open Go Go.Lib

/-- parts joined by bytes c -/
def jn (c : UInt8) : List (List UInt8) → List UInt8
  | [] => []
  | [p] => p
  | p :: q :: r => p ++ c :: jn c (q :: r)
theorem jn_pts (c : UInt8) : ∀ l, jn c (pts c l) = l
  | [] => rfl
  | b :: r => by
    have ih := jn_pts c r
    rw [pts]
    by_cases h : b = c
    · subst h
      rw [if_pos rfl]
      cases hp : pts b r with
      | nil => exact absurd hp (pts_ne b r)
      | cons p t => rw [hp] at ih; rw [jn, ih]; rfl
    · rw [if_neg h]
      cases hp : pts c r with
      | nil => exact absurd hp (pts_ne c r)
      | cons p t =>
        rw [hp] at ih
        cases t with
        | nil => simp only [jn] at ih ⊢; rw [ih]
        | cons q t => simp only [jn] at ih ⊢; rw [← ih]; rfl
theorem pts_mem {c : UInt8} : ∀ {l : List UInt8}, ∀ p ∈ pts c l, c ∉ p
  | [], p, h => by simp [pts] at h; simp [h]
  | b :: r, p, h => by
    have ih := fun p h => pts_mem (c := c) (l := r) p h
    rw [pts] at h
    by_cases hb : b = c
    · rw [if_pos hb] at h
      rcases List.mem_cons.1 h with rfl | h
      · simp
      · exact ih p h
    · rw [if_neg hb] at h
      cases hp : pts c r with
      | nil => exact absurd hp (pts_ne c r)
      | cons q t =>
        rw [hp] at h ih
        rcases List.mem_cons.1 h with rfl | h
        · intro e
          rcases List.mem_cons.1 e with e | e
          · exact hb e.symm
          · exact ih q (List.mem_cons_self ..) e
        · exact ih p (List.mem_cons_of_mem _ h)
/-- a text's lines, each with its end -/
def lnsOf : List (List UInt8) → List (List UInt8)
  | [] => []
  | [p] => if p = [] then [] else [p]
  | p :: q :: r => (p ++ [10]) :: lnsOf (q :: r)
def lns (l : List UInt8) : List (List UInt8) := lnsOf (pts 10 l)
theorem lns_nil : lns [] = [] := rfl
theorem lns_one {a : List UInt8} (h : (10 : UInt8) ∉ a) (h1 : a ≠ []) : lns a = [a] := by
  unfold lns; rw [pts_no h, lnsOf, if_neg h1]
theorem lns_at {a r : List UInt8} (h : (10 : UInt8) ∉ a) : lns (a ++ 10 :: r) = (a ++ [10]) :: lns r := by
  unfold lns
  rw [pts_at h]
  cases hp : pts 10 r with
  | nil => exact absurd hp (pts_ne 10 r)
  | cons p t => rw [lnsOf]
theorem lnsOf_len : ∀ (ps : List (List UInt8)) (n : Nat), (∀ p ∈ ps, p.length ≤ n) → ∀ x ∈ lnsOf ps, x.length ≤ n + 1
  | [], _, _, x, h => by simp [lnsOf] at h
  | [p], n, hp, x, h => by
    rw [lnsOf] at h
    split at h
    · simp at h
    · rw [List.mem_singleton.1 h]
      have := hp p (List.mem_cons_self ..)
      omega
  | p :: q :: r, n, hp, x, h => by
    rw [lnsOf] at h
    rcases List.mem_cons.1 h with rfl | h
    · have := hp p (List.mem_cons_self ..)
      simp; exact this
    · exact lnsOf_len (q :: r) n (fun y hy => hp y (List.mem_cons_of_mem _ hy)) x h
def endB (x : List UInt8) : Bool := hasSuffix x [10]
def bodyL (x : List UInt8) : List UInt8 := if endB x then x.take (x.length - 1) else x
theorem end_yes (p : List UInt8) : endB (p ++ [10]) = true ∧ bodyL (p ++ [10]) = p := by
  have h : endB (p ++ [10]) = true := by
    unfold endB hasSuffix
    rw [List.isSuffixOf_iff_suffix]
    exact ⟨p, rfl⟩
  refine ⟨h, ?_⟩
  unfold bodyL
  rw [if_pos h]
  simp
theorem end_no {p : List UInt8} (h : (10 : UInt8) ∉ p) : endB p = false := by
  rcases Bool.eq_false_or_eq_true (endB p) with h1 | h1
  · unfold endB hasSuffix at h1
    rw [List.isSuffixOf_iff_suffix] at h1
    obtain ⟨t, rfl⟩ := h1
    simp at h
  · exact h1
theorem dg_no {c : UInt8} (h : c.toNat < 48) {l : List UInt8} (hl : ∀ x ∈ l, isDg x) : c ∉ l := by
  intro e
  have := hl c e
  unfold isDg at this
  omega
theorem itoa_no {c : UInt8} (h : c.toNat < 45) (n : Int) : c ∉ itoa n := by
  intro e
  rcases itoa_mem e with h1 | h1
  · unfold isDg at h1; omega
  · omega
theorem rn_dec {n : Int} (h0 : 0 ≤ n) (h1 : n < 1000000000) : rnB (itoa n) = true ∧ (valL 0 (itoa n) : Int) = n := by
  rw [itoa_pos h0]
  refine ⟨?_, by rw [valL_dec]; omega⟩
  have hd := dec_dg n.toNat
  unfold rnB
  simp only [Bool.and_eq_true, decide_eq_true_eq, Bool.not_eq_true', Bool.and_eq_false_iff, decide_eq_false_iff_not]
  refine ⟨⟨⟨List.length_pos_iff.2 (dec_ne _), ?_⟩, ?_⟩, all_dg.2 hd⟩
  · rcases Nat.lt_or_ge 9 (decDigits n.toNat).length with h | h
    · exfalso
      have hz : 1 < (decDigits n.toNat).length → (decDigits n.toNat).head?.map UInt8.toNat ≠ some 48 := fun h => dec_head (dec_len1 h)
      have hv := valL_dec n.toNat
      -- ten digits without superfluous zeros are 10 ^ 9 at least
      have key : ∀ (l : List UInt8) (a : Nat), 1 ≤ a → (∀ c ∈ l, isDg c) → a * 10 ^ l.length ≤ valL a l := by
        intro l
        induction l with
        | nil => intro a _ _; simp [valL]
        | cons c r ih =>
          intro a ha hc
          have := ih (a * 10 + (c.toNat - 48)) (by omega) (fun x hx => hc x (List.mem_cons_of_mem _ hx))
          show a * 10 ^ (r.length + 1) ≤ valL (a * 10 + (c.toNat - 48)) r
          refine Nat.le_trans ?_ this
          rw [Nat.pow_succ, Nat.mul_comm (10 ^ r.length) 10, ← Nat.mul_assoc]
          exact Nat.mul_le_mul_right _ (by omega)
      cases hl : decDigits n.toNat with
      | nil => exact absurd hl (dec_ne _)
      | cons c r =>
        rw [hl] at h hz hv hd
        have h2 := hd c (List.mem_cons_self ..)
        unfold isDg at h2
        have h3 : c.toNat ≠ 48 := fun e => hz (by omega) (by simp [e])
        have := key r (0 * 10 + (c.toNat - 48)) (by omega) (fun x hx => hd x (List.mem_cons_of_mem _ hx))
        have hv' : valL (0 * 10 + (c.toNat - 48)) r = n.toNat := hv
        have h9 : 10 ^ 9 ≤ 10 ^ r.length := Nat.pow_le_pow_right (by decide) (by simp at h; omega)
        have : 1 * 10 ^ r.length ≤ (0 * 10 + (c.toNat - 48)) * 10 ^ r.length := Nat.mul_le_mul_right _ (by omega)
        have e9 : (10 : Nat) ^ 9 = 1000000000 := by decide
        omega
    · exact h
  · by_cases h5 : 1 < (decDigits n.toNat).length
    · exact .inr fun h6 => dec_head (dec_len1 h5) ((head_48 _).1 h6)
    · exact .inl h5
/-- what is read has the text -/
theorem num_back {l : List UInt8} (h : rnB l = true) : itoa (valL 0 l : Nat) = l := by
  obtain ⟨h1, h2, h3, h4⟩ := rn_facts h
  rw [itoa_nat, dec_valL l h1 h2 h4]
end Go.Proofs.YtnhimgabcljahaaGreatDoor
