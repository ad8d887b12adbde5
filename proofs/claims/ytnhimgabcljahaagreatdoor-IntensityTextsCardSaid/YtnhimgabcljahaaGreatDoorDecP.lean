/- Decimal numerals: what Itoa prints is read again by Atoi and by digit loops; where a separator stands; plain facts. -/
import Derived.Test.YtnhimgabcljahaaGreatDoorBase
import Derived.Lib.AtoiAllCases
import Derived.Lib.ItoaNum
import Derived.Lib.ItoaLen
import Derived.Lib.IndexMore
namespace Go.Proofs.YtnhimgabcljahaaGreatDoor
open Go.Lib

def isDg (c : UInt8) : Prop := 48 ≤ c.toNat ∧ c.toNat ≤ 57
theorem dgN {k : Nat} (h : k < 10) : (UInt8.ofNat (48 + k)).toNat = 48 + k := by
  rw [UInt8.toNat_ofNat']
  omega
theorem dec_small {u : Nat} (h : u < 10) : decDigits u = [UInt8.ofNat (48 + u)] := by rw [decDigits, dif_pos h]
theorem dec_big {u : Nat} (h : ¬ u < 10) : decDigits u = decDigits (u / 10) ++ [UInt8.ofNat (48 + u % 10)] := by rw [decDigits, dif_neg h]
theorem dec_ne (u : Nat) : decDigits u ≠ [] := by
  by_cases h : u < 10
  · rw [dec_small h]; simp
  · rw [dec_big h]; simp
theorem dec_dg : ∀ (u : Nat), ∀ c ∈ decDigits u, isDg c := by
  intro u
  induction u using Nat.strongRecOn with
  | _ u ih =>
    intro c hc
    by_cases h : u < 10
    · rw [dec_small h] at hc
      rw [List.mem_singleton.1 hc]
      unfold isDg
      rw [dgN h]
      omega
    · rw [dec_big h] at hc
      rcases List.mem_append.1 hc with h1 | h1
      · exact ih (u / 10) (by omega) c h1
      · rw [List.mem_singleton.1 h1]
        unfold isDg
        rw [dgN (by omega)]
        omega
/-- what digits spell, behind a number -/
def valL (acc : Nat) (l : List UInt8) : Nat := l.foldl (fun a c => a * 10 + (c.toNat - 48)) acc
theorem valL_append (acc : Nat) (l r : List UInt8) : valL acc (l ++ r) = valL (valL acc l) r := List.foldl_append
theorem valL_dec : ∀ (u : Nat), valL 0 (decDigits u) = u := by
  intro u
  induction u using Nat.strongRecOn with
  | _ u ih =>
    by_cases h : u < 10
    · rw [dec_small h]
      show 0 * 10 + ((UInt8.ofNat (48 + u)).toNat - 48) = u
      rw [dgN h]
      omega
    · rw [dec_big h, valL_append, ih (u / 10) (by omega)]
      show u / 10 * 10 + ((UInt8.ofNat (48 + u % 10)).toNat - 48) = u
      rw [dgN (by omega)]
      omega
theorem valL_ge (acc : Nat) (l : List UInt8) : acc ≤ valL acc l := by
  induction l generalizing acc with
  | nil => exact Nat.le_refl _
  | cons c r ih =>
    have := ih (acc * 10 + (c.toNat - 48))
    show acc ≤ valL (acc * 10 + (c.toNat - 48)) r
    omega
theorem valL_lt (l : List UInt8) (h : ∀ c ∈ l, isDg c) (acc : Nat) : valL acc l < (acc + 1) * 10 ^ l.length := by
  induction l generalizing acc with
  | nil => show acc < (acc + 1) * 1; omega
  | cons c r ih =>
    have h1 := ih (fun x hx => h x (List.mem_cons_of_mem _ hx)) (acc * 10 + (c.toNat - 48))
    have h2 := h c (List.mem_cons_self ..)
    unfold isDg at h2
    show valL (acc * 10 + (c.toNat - 48)) r < _
    rw [List.length_cons, Nat.pow_succ, Nat.mul_comm (10 ^ r.length) 10, ← Nat.mul_assoc]
    exact Nat.lt_of_lt_of_le h1 (Nat.mul_le_mul_right _ (by omega))
/-- digits without superfluous zeros are the numeral of what they spell -/
theorem dec_valL (l : List UInt8) (h : ∀ c ∈ l, isDg c) (h1 : l ≠ []) (h0 : 1 < l.length → l.head?.map UInt8.toNat ≠ some 48) : decDigits (valL 0 l) = l := by
  have key : ∀ (r : List UInt8) (c : UInt8), (∀ x ∈ r, isDg x) → isDg c → c.toNat ≠ 48 → decDigits (valL 0 (c :: r)) = c :: r := by
    intro r
    induction hn : r.length generalizing r with
    | zero =>
      intro c _ hc _
      rw [List.length_eq_zero_iff.1 hn]
      unfold isDg at hc
      show decDigits (0 * 10 + (c.toNat - 48)) = [c]
      rw [dec_small (by omega)]
      congr 1
      apply UInt8.toNat_inj.1
      rw [dgN (by omega)]
      omega
    | succ n ih =>
      intro c hr hc hz
      obtain ⟨r', x, rfl⟩ : ∃ r' x, r = r' ++ [x] := ⟨r.dropLast, r.getLast (by intro e; simp [e] at hn), (List.dropLast_concat_getLast _).symm⟩
      have hl : r'.length = n := by simp at hn; omega
      have e := ih r' hl c (fun y hy => hr y (List.mem_append_left _ hy)) hc hz
      have hx := hr x (by simp)
      unfold isDg at hx hc
      have hv : 1 ≤ valL 0 (c :: r') := by
        have := valL_ge (0 * 10 + (c.toNat - 48)) r'
        show 1 ≤ valL (0 * 10 + (c.toNat - 48)) r'
        omega
      rw [← List.cons_append, valL_append]
      show decDigits (valL 0 (c :: r') * 10 + (x.toNat - 48)) = _
      generalize valL 0 (c :: r') = v at *
      rw [dec_big (by omega), show (v * 10 + (x.toNat - 48)) / 10 = v by omega, e]
      congr 2
      apply UInt8.toNat_inj.1
      rw [dgN (by omega)]
      omega
  cases l with
  | nil => exact absurd rfl h1
  | cons c r =>
    by_cases hz : c.toNat = 48
    · have : r = [] := by
        cases r with
        | nil => rfl
        | cons d r => exact absurd (by simp [hz]) (h0 (by simp))
      subst this
      show decDigits (0 * 10 + (c.toNat - 48)) = [c]
      rw [hz, dec_small (by omega)]
      congr 1
      apply UInt8.toNat_inj.1
      rw [hz]
      rfl
    · exact key r c (fun x hx => h x (List.mem_cons_of_mem _ hx)) (h c (List.mem_cons_self ..)) hz
theorem dec_head {u : Nat} (h : 10 ≤ u) : (decDigits u).head?.map UInt8.toNat ≠ some 48 := by
  have : ∀ v, 1 ≤ v → (decDigits v).head?.map UInt8.toNat ≠ some 48 := by
    intro v
    induction v using Nat.strongRecOn with
    | _ v ih =>
      intro hv
      by_cases h : v < 10
      · rw [dec_small h]
        show some (UInt8.ofNat (48 + v)).toNat ≠ some 48
        rw [dgN h]
        intro e
        injection e
        omega
      · rw [dec_big h, List.head?_append]
        have hi := ih (v / 10) (by omega) (by omega)
        cases hd : decDigits (v / 10) with
        | nil => exact absurd hd (dec_ne _)
        | cons c r => rw [hd] at hi; simpa using hi
  exact this u (by omega)
theorem dec_len1 {u : Nat} (h : 1 < (decDigits u).length) : 10 ≤ u := by
  by_cases h1 : u < 10
  · rw [dec_small h1] at h; simp at h
  · omega
/-- ParseUint over digits -/
theorem parse_digits (l : List UInt8) (h : ∀ c ∈ l, isDg c) (acc : Nat) (hv : valL acc l < 18446744073709551616) : parseUint10 acc l = .ok (valL acc l) := by
  induction l generalizing acc with
  | nil => rfl
  | cons c r ih =>
    have h2 := h c (List.mem_cons_self ..)
    unfold isDg at h2
    have e : valL acc (c :: r) = valL (acc * 10 + (c.toNat - 48)) r := rfl
    have hg := valL_ge (acc * 10 + (c.toNat - 48)) r
    rw [e] at hv ⊢
    have h3 := ih (fun x hx => h x (List.mem_cons_of_mem _ hx)) (acc * 10 + (c.toNat - 48)) hv
    simp only [parseUint10]
    rw [if_pos h2, if_neg (by omega), if_neg (by omega)]
    exact h3
theorem atoi_digits (l : List UInt8) (h : ∀ c ∈ l, isDg c) (h1 : l ≠ []) (hv : valL 0 l < 9223372036854775808) : atoiAll l = .ok (valL 0 l : Nat) := by
  cases l with
  | nil => exact absurd rfl h1
  | cons c r =>
    have h2 := h c (List.mem_cons_self ..)
    unfold isDg at h2
    rw [atoiAll_plain c r (by omega) (by omega)]
    unfold parseMag
    rw [if_neg (by simp), parse_digits (c :: r) h 0 (by omega)]
    simp only [signless]
    rw [if_neg (by omega)]
theorem itoa_nat (u : Nat) : itoa (u : Int) = decDigits u := by unfold itoa; rw [if_neg (by omega)]; rfl
theorem itoa_neg {n : Int} (h : n < 0) : itoa n = 45 :: decDigits n.natAbs := by unfold itoa; rw [if_pos h]
theorem itoa_pos {n : Int} (h : 0 ≤ n) : itoa n = decDigits n.toNat := by unfold itoa; rw [if_neg (by omega)]
theorem atoi_itoa {n : Int} (h0 : -9223372036854775808 ≤ n) (h1 : n ≤ 9223372036854775807) : atoiAll (itoa n) = .ok n := by
  by_cases h : n < 0
  · rw [itoa_neg h, atoiAll_minus]
    unfold parseMag
    rw [if_neg (dec_ne _), parse_digits _ (dec_dg _) 0 (by rw [valL_dec]; omega), valL_dec]
    simp only [signed]
    rw [if_neg (by omega)]
    congr 1
    omega
  · rw [itoa_pos (by omega), atoi_digits _ (dec_dg _) (dec_ne _) (by rw [valL_dec]; omega), valL_dec]
    congr 1
    omega
theorem itoa_mem {n : Int} {c : UInt8} (h : c ∈ itoa n) : isDg c ∨ c.toNat = 45 := by
  by_cases hn : n < 0
  · rw [itoa_neg hn] at h
    rcases List.mem_cons.1 h with rfl | h
    · exact .inr rfl
    · exact .inl (dec_dg _ _ h)
  · rw [itoa_pos (by omega)] at h
    exact .inl (dec_dg _ _ h)
theorem itoa_inj {m n : Int} (h : itoa m = itoa n) : m = n := by
  by_cases hm : m < 0
  · by_cases hn : n < 0
    · rw [itoa_neg hm, itoa_neg hn] at h
      injection h with _ h
      have := congrArg (valL 0) h
      rw [valL_dec, valL_dec] at this
      omega
    · rw [itoa_neg hm, itoa_pos (by omega)] at h
      have : (45 : UInt8) ∈ decDigits n.toNat := h ▸ List.mem_cons_self ..
      have := dec_dg _ _ this
      exact absurd this (by unfold isDg; decide)
  · by_cases hn : n < 0
    · rw [itoa_pos (by omega), itoa_neg hn] at h
      have : (45 : UInt8) ∈ decDigits m.toNat := h ▸ List.mem_cons_self ..
      have := dec_dg _ _ this
      exact absurd this (by unfold isDg; decide)
    · rw [itoa_pos (by omega), itoa_pos (by omega)] at h
      have := congrArg (valL 0) h
      rw [valL_dec, valL_dec] at this
      omega
/-- no instance where the first byte is not there -/
theorem index_no {c : UInt8} {t : List UInt8} : ∀ {s : List UInt8}, c ∉ s → index s (c :: t) = -1
  | [], _ => by simp [index]
  | b :: l, h => by
    have h1 : ¬ c = b := fun e => h (e ▸ List.mem_cons_self ..)
    have h2 := index_no (t := t) (fun h' => h (List.mem_cons_of_mem _ h') : c ∉ l)
    simp [index, List.isPrefixOf, h1, h2]
theorem index_at {c : UInt8} {t r : List UInt8} : ∀ {a : List UInt8}, c ∉ a → index (a ++ ((c :: t) ++ r)) (c :: t) = (a.length : Int)
  | [], _ => by
    have : (c :: t).isPrefixOf (c :: (t ++ r)) = true := by
      rw [List.isPrefixOf_iff_prefix]
      exact ⟨r, rfl⟩
    simp [index, this]
  | b :: l, h => by
    have h1 : ¬ c = b := fun e => h (e ▸ List.mem_cons_self ..)
    have h2 := index_at (t := t) (r := r) (fun h' => h (List.mem_cons_of_mem _ h') : c ∉ l)
    rw [List.cons_append]
    have h3 : (c :: t).isPrefixOf (b :: (l ++ ((c :: t) ++ r))) = false := by simp [List.isPrefixOf, h1]
    rw [index, h3, h2]
    have : ((l.length : Int) == -1) = false := by simp
    simp [this]
theorem cut_no {c : UInt8} {t s : List UInt8} (h : c ∉ s) : cut s (c :: t) = (s, [], false) := by
  unfold cut
  rw [index_no h, if_neg (by omega)]
theorem cut_at {c : UInt8} {t a r : List UInt8} (h : c ∉ a) : cut (a ++ ((c :: t) ++ r)) (c :: t) = (a, r, true) := by
  unfold cut
  rw [index_at h, if_pos (by omega)]
  simp
end Go.Proofs.YtnhimgabcljahaaGreatDoor
