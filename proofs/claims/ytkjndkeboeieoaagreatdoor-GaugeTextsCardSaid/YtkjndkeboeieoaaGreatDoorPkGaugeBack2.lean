/- Parts of one proof, joined: Texts by lines, and decimal numbers of at most nine digits in them; plain facts. Decimal integers without sign of at most 15 digits (chapter 17): what the program and the reference read; plain facts. Dates, their numbers, and that a number has one date; the texts of instants; plain facts. Rows of the call's own that grow by append, beside blocks of the call's own; slices of integers that read as a list. Records of rain: sums, greatest sums, validity; where a record lies in memory. -/
import Derived.Test.YtkjndkeboeieoaaGreatDoorPkGaugeBack1
import Derived.Deep.RegionHeld3
namespace Go.Proofs.YtkjndkeboeieoaaGreatDoor
open Go Go.Lib

/-- parts joined by bytes c -/
def jn (c : UInt8) : List (List UInt8) → List UInt8
  | [] => []
  | [p] => p
  | p :: q :: r => p ++ c :: jn c (q :: r)
theorem jn_pts (c : UInt8) : ∀ l, jn c (pts c l) = l
  | [] => rfl
  | b :: r => by
    have ih := jn_pts c r
    rw [pts]
    by_cases h : b = c
    · subst h
      rw [if_pos rfl]
      cases hp : pts b r with
      | nil => exact absurd hp (pts_ne b r)
      | cons p t => rw [hp] at ih; rw [jn, ih]; rfl
    · rw [if_neg h]
      cases hp : pts c r with
      | nil => exact absurd hp (pts_ne c r)
      | cons p t =>
        rw [hp] at ih
        cases t with
        | nil => simp only [jn] at ih ⊢; rw [ih]
        | cons q t => simp only [jn] at ih ⊢; rw [← ih]; rfl
theorem pts_mem {c : UInt8} : ∀ {l : List UInt8}, ∀ p ∈ pts c l, c ∉ p
  | [], p, h => by simp [pts] at h; simp [h]
  | b :: r, p, h => by
    have ih := fun p h => pts_mem (c := c) (l := r) p h
    rw [pts] at h
    by_cases hb : b = c
    · rw [if_pos hb] at h
      rcases List.mem_cons.1 h with rfl | h
      · simp
      · exact ih p h
    · rw [if_neg hb] at h
      cases hp : pts c r with
      | nil => exact absurd hp (pts_ne c r)
      | cons q t =>
        rw [hp] at h ih
        rcases List.mem_cons.1 h with rfl | h
        · intro e
          rcases List.mem_cons.1 e with e | e
          · exact hb e.symm
          · exact ih q (List.mem_cons_self ..) e
        · exact ih p (List.mem_cons_of_mem _ h)
/-- a text's lines, each with its end -/
def lnsOf : List (List UInt8) → List (List UInt8)
  | [] => []
  | [p] => if p = [] then [] else [p]
  | p :: q :: r => (p ++ [10]) :: lnsOf (q :: r)
def lns (l : List UInt8) : List (List UInt8) := lnsOf (pts 10 l)
theorem lns_nil : lns [] = [] := rfl
theorem lns_one {a : List UInt8} (h : (10 : UInt8) ∉ a) (h1 : a ≠ []) : lns a = [a] := by
  unfold lns; rw [pts_no h, lnsOf, if_neg h1]
theorem lns_at {a r : List UInt8} (h : (10 : UInt8) ∉ a) : lns (a ++ 10 :: r) = (a ++ [10]) :: lns r := by
  unfold lns
  rw [pts_at h]
  cases hp : pts 10 r with
  | nil => exact absurd hp (pts_ne 10 r)
  | cons p t => rw [lnsOf]
theorem lnsOf_len : ∀ (ps : List (List UInt8)) (n : Nat), (∀ p ∈ ps, p.length ≤ n) → ∀ x ∈ lnsOf ps, x.length ≤ n + 1
  | [], _, _, x, h => by simp [lnsOf] at h
  | [p], n, hp, x, h => by
    rw [lnsOf] at h
    split at h
    · simp at h
    · rw [List.mem_singleton.1 h]
      have := hp p (List.mem_cons_self ..)
      omega
  | p :: q :: r, n, hp, x, h => by
    rw [lnsOf] at h
    rcases List.mem_cons.1 h with rfl | h
    · have := hp p (List.mem_cons_self ..)
      simp; exact this
    · exact lnsOf_len (q :: r) n (fun y hy => hp y (List.mem_cons_of_mem _ hy)) x h
def endB (x : List UInt8) : Bool := hasSuffix x [10]
def bodyL (x : List UInt8) : List UInt8 := if endB x then x.take (x.length - 1) else x
theorem end_yes (p : List UInt8) : endB (p ++ [10]) = true ∧ bodyL (p ++ [10]) = p := by
  have h : endB (p ++ [10]) = true := by
    unfold endB hasSuffix
    rw [List.isSuffixOf_iff_suffix]
    exact ⟨p, rfl⟩
  refine ⟨h, ?_⟩
  unfold bodyL
  rw [if_pos h]
  simp
theorem end_no {p : List UInt8} (h : (10 : UInt8) ∉ p) : endB p = false := by
  rcases Bool.eq_false_or_eq_true (endB p) with h1 | h1
  · unfold endB hasSuffix at h1
    rw [List.isSuffixOf_iff_suffix] at h1
    obtain ⟨t, rfl⟩ := h1
    simp at h
  · exact h1
theorem dg_no {c : UInt8} (h : c.toNat < 48) {l : List UInt8} (hl : ∀ x ∈ l, isDg x) : c ∉ l := by
  intro e
  have := hl c e
  unfold isDg at this
  omega
theorem itoa_no {c : UInt8} (h : c.toNat < 45) (n : Int) : c ∉ itoa n := by
  intro e
  rcases itoa_mem e with h1 | h1
  · unfold isDg at h1; omega
  · omega
theorem rn_dec {n : Int} (h0 : 0 ≤ n) (h1 : n < 1000000000) : rnB (itoa n) = true ∧ (valL 0 (itoa n) : Int) = n := by
  rw [itoa_pos h0]
  refine ⟨?_, by rw [valL_dec]; omega⟩
  have hd := dec_dg n.toNat
  unfold rnB
  simp only [Bool.and_eq_true, decide_eq_true_eq, Bool.not_eq_true', Bool.and_eq_false_iff, decide_eq_false_iff_not]
  refine ⟨⟨⟨List.length_pos_iff.2 (dec_ne _), ?_⟩, ?_⟩, all_dg.2 hd⟩
  · rcases Nat.lt_or_ge 9 (decDigits n.toNat).length with h | h
    · exfalso
      have hz : 1 < (decDigits n.toNat).length → (decDigits n.toNat).head?.map UInt8.toNat ≠ some 48 := fun h => dec_head (dec_len1 h)
      have hv := valL_dec n.toNat
      -- ten digits without superfluous zeros are 10 ^ 9 at least
      have key : ∀ (l : List UInt8) (a : Nat), 1 ≤ a → (∀ c ∈ l, isDg c) → a * 10 ^ l.length ≤ valL a l := by
        intro l
        induction l with
        | nil => intro a _ _; simp [valL]
        | cons c r ih =>
          intro a ha hc
          have := ih (a * 10 + (c.toNat - 48)) (by omega) (fun x hx => hc x (List.mem_cons_of_mem _ hx))
          show a * 10 ^ (r.length + 1) ≤ valL (a * 10 + (c.toNat - 48)) r
          refine Nat.le_trans ?_ this
          rw [Nat.pow_succ, Nat.mul_comm (10 ^ r.length) 10, ← Nat.mul_assoc]
          exact Nat.mul_le_mul_right _ (by omega)
      cases hl : decDigits n.toNat with
      | nil => exact absurd hl (dec_ne _)
      | cons c r =>
        rw [hl] at h hz hv hd
        have h2 := hd c (List.mem_cons_self ..)
        unfold isDg at h2
        have h3 : c.toNat ≠ 48 := fun e => hz (by omega) (by simp [e])
        have := key r (0 * 10 + (c.toNat - 48)) (by omega) (fun x hx => hd x (List.mem_cons_of_mem _ hx))
        have hv' : valL (0 * 10 + (c.toNat - 48)) r = n.toNat := hv
        have h9 : 10 ^ 9 ≤ 10 ^ r.length := Nat.pow_le_pow_right (by decide) (by simp at h; omega)
        have : 1 * 10 ^ r.length ≤ (0 * 10 + (c.toNat - 48)) * 10 ^ r.length := Nat.mul_le_mul_right _ (by omega)
        have e9 : (10 : Nat) ^ 9 = 1000000000 := by decide
        omega
    · exact h
  · by_cases h5 : 1 < (decDigits n.toNat).length
    · exact .inr fun h6 => dec_head (dec_len1 h5) ((head_48 _).1 h6)
    · exact .inl h5
/-- what is read has the text -/
theorem num_back {l : List UInt8} (h : rnB l = true) : itoa (valL 0 l : Nat) = l := by
  obtain ⟨h1, h2, h3, h4⟩ := rn_facts h
  rw [itoa_nat, dec_valL l h1 h2 h4]
end Go.Proofs.YtkjndkeboeieoaaGreatDoor

namespace Go.Proofs.YtkjndkeboeieoaaGreatDoor
open Go Go.Lib

/-- the program's number -/
def nvB (l : List UInt8) : Bool := atB l && decide (l.length ≤ 15) && decide (0 ≤ atV l) && decide (itoa (atV l) = l)
/-- the reference's integer -/
def rvB (l : List UInt8) : Bool := decide (1 ≤ l.length) && decide (l.length ≤ 15) && !(decide (1 < l.length) && decide (l.head? = some 48)) && l.all fun c => decide (48 ≤ c.toNat ∧ c.toNat ≤ 57)
theorem rv_facts {l : List UInt8} (h : rvB l = true) : (∀ c ∈ l, isDg c) ∧ l ≠ [] ∧ l.length ≤ 15 ∧ (1 < l.length → l.head?.map UInt8.toNat ≠ some 48) := by
  unfold rvB at h
  simp only [Bool.and_eq_true, decide_eq_true_eq, Bool.not_eq_true', Bool.and_eq_false_iff, decide_eq_false_iff_not] at h
  obtain ⟨⟨⟨h1, h2⟩, h3⟩, h4⟩ := h
  refine ⟨all_dg.1 h4, fun e => by rw [e] at h1; simp at h1, h2, fun h5 e => ?_⟩
  rcases h3 with h3 | h3
  · exact h3 h5
  · exact h3 ((head_48 l).2 e)
theorem rv_val {l : List UInt8} (h : rvB l = true) : valL 0 l < 1000000000000000 := by
  obtain ⟨h1, _, h3, _⟩ := rv_facts h
  have h4 := valL_lt l h1 0
  have h5 : 10 ^ l.length ≤ 10 ^ 15 := Nat.pow_le_pow_right (by decide) h3
  have : (10 : Nat) ^ 15 = 1000000000000000 := by decide
  omega
theorem nv_same (l : List UInt8) : nvB l = rvB l ∧ (rvB l = true → atV l = (valL 0 l : Nat)) := by
  have back : rvB l = true → nvB l = true ∧ atV l = (valL 0 l : Nat) := fun h => by
    obtain ⟨h1, h2, h3, h4⟩ := rv_facts h
    have hv := rv_val h
    obtain ⟨a1, a2⟩ := at_ok (atoi_digits l h1 h2 (by omega))
    refine ⟨?_, a1⟩
    unfold nvB
    rw [a2, a1, itoa_nat, dec_valL l h1 h2 h4]
    simp [h3]
  refine ⟨Bool.eq_iff_iff.2 ⟨fun h => ?_, fun h => (back h).1⟩, fun h => (back h).2⟩
  unfold nvB at h
  simp only [Bool.and_eq_true, decide_eq_true_eq] at h
  obtain ⟨⟨⟨_, h2⟩, h4⟩, h3⟩ := h
  have e : l = decDigits (atV l).toNat := by rw [← itoa_pos h4]; exact h3.symm
  have hd : ∀ c ∈ l, isDg c := by rw [e]; exact dec_dg _
  have hn : l ≠ [] := by rw [e]; exact dec_ne _
  have hz : 1 < l.length → l.head?.map UInt8.toNat ≠ some 48 := fun h => by
    rw [e] at h ⊢
    exact dec_head (dec_len1 h)
  unfold rvB
  simp only [Bool.and_eq_true, decide_eq_true_eq, Bool.not_eq_true', Bool.and_eq_false_iff, decide_eq_false_iff_not]
  refine ⟨⟨⟨List.length_pos_iff.2 hn, h2⟩, ?_⟩, all_dg.2 hd⟩
  by_cases h5 : 1 < l.length
  · exact .inr fun h6 => hz h5 ((head_48 l).1 h6)
  · exact .inl h5
/-- small numerals are short -/
theorem dec_lenK : ∀ (k u : Nat), u < 10 ^ (k + 1) → (decDigits u).length ≤ k + 1
  | 0, u, h => by rw [dec_small (by simpa using h)]; simp
  | k + 1, u, h => by
    by_cases h1 : u < 10
    · rw [dec_small h1]; simp
    · have := dec_lenK k (u / 10) (by rw [Nat.pow_succ] at h; omega)
      rw [dec_big h1]
      simp; omega
theorem rv_dec {n : Int} (h0 : 0 ≤ n) (h1 : n < 1000000000000000) : rvB (itoa n) = true ∧ (valL 0 (itoa n) : Int) = n := by
  rw [itoa_pos h0]
  refine ⟨?_, by rw [valL_dec]; omega⟩
  have hd := dec_dg n.toNat
  have h15 := dec_lenK 14 n.toNat (by have : (10 : Nat) ^ 15 = 1000000000000000 := by decide
                                      omega)
  unfold rvB
  simp only [Bool.and_eq_true, decide_eq_true_eq, Bool.not_eq_true', Bool.and_eq_false_iff, decide_eq_false_iff_not]
  refine ⟨⟨⟨List.length_pos_iff.2 (dec_ne _), h15⟩, ?_⟩, all_dg.2 hd⟩
  by_cases h5 : 1 < (decDigits n.toNat).length
  · exact .inr fun h6 => dec_head (dec_len1 h5) ((head_48 _).1 h6)
  · exact .inl h5
/-- what is read has the text -/
theorem rv_back {l : List UInt8} (h : rvB l = true) : itoa (valL 0 l : Nat) = l := by
  obtain ⟨h1, h2, h3, h4⟩ := rv_facts h
  rw [itoa_nat, dec_valL l h1 h2 h4]
end Go.Proofs.YtkjndkeboeieoaaGreatDoor

namespace Go.Proofs.YtkjndkeboeieoaaGreatDoor
open Go.Lib

def leapN (y : Nat) : Bool := (decide (y % 4 = 0) && decide (y % 100 ≠ 0)) || decide (y % 400 = 0)
/-- the days of a month -/
def mdN (y m : Nat) : Nat := if m = 2 ∧ leapN y = true then 29 else [31, 28, 31, 30, 31, 30, 31, 31, 30, 31, 30, 31].getD (m - 1) 0
/-- the days before a year, from the beginning of the year 1 -/
def bfN (y : Nat) : Nat := 365 * (y - 1) + (y - 1) / 4 - (y - 1) / 100 + (y - 1) / 400
/-- the days of the first months -/
def cuN (y : Nat) : Nat → Nat | 0 => 0 | m + 1 => cuN y m + mdN y (m + 1)
theorem md_bd (y m : Nat) (h1 : 1 ≤ m) (h2 : m ≤ 12) : 28 ≤ mdN y m ∧ mdN y m ≤ 31 := by
  unfold mdN
  split
  · omega
  · have : ∀ k : Fin 12, 28 ≤ [31, 28, 31, 30, 31, 30, 31, 31, 30, 31, 30, 31].getD k.val 0 ∧ [31, 28, 31, 30, 31, 30, 31, 31, 30, 31, 30, 31].getD k.val 0 ≤ 31 := by decide
    exact this ⟨m - 1, by omega⟩
theorem cuN_mono (y : Nat) {i j : Nat} (h : i ≤ j) : cuN y i ≤ cuN y j := by
  induction j with
  | zero => have : i = 0 := by omega
            subst this; exact Nat.le_refl _
  | succ j ih =>
    rcases Nat.lt_or_ge i (j + 1) with h1 | h1
    · have := ih (by omega)
      show cuN y i ≤ cuN y j + mdN y (j + 1)
      omega
    · have : i = j + 1 := by omega
      subst this; exact Nat.le_refl _
theorem cu_12 (y : Nat) : cuN y 12 = if leapN y = true then 366 else 365 := by
  by_cases h : leapN y = true
  · simp [cuN, mdN, h]
  · simp [cuN, mdN, h]
theorem bf_next {y : Nat} (h : 1 ≤ y) : bfN (y + 1) = bfN y + cuN y 12 := by
  rw [cu_12]
  unfold bfN leapN
  obtain ⟨n, rfl⟩ : ∃ n, y = n + 1 := ⟨y - 1, by omega⟩
  by_cases a : (n + 1) % 4 = 0 <;> by_cases b : (n + 1) % 100 = 0 <;> by_cases c : (n + 1) % 400 = 0 <;> simp [a, b, c] <;> omega
theorem bf_mono {a b : Nat} (h : a ≤ b) : bfN a ≤ bfN b := by
  induction b with
  | zero => have : a = 0 := by omega
            subst this; exact Nat.le_refl _
  | succ b ih =>
    rcases Nat.lt_or_ge a (b + 1) with h1 | h1
    · have := ih (by omega)
      rcases Nat.eq_zero_or_pos b with h2 | h2
      · subst h2
        have : a = 0 := by omega
        subst this
        exact Nat.zero_le _
      · have := bf_next h2
        omega
    · have : a = b + 1 := by omega
      subst this; exact Nat.le_refl _
theorem bf_1 : bfN 1 = 0 := rfl
theorem bf_10000 : bfN 10000 = 3652059 := rfl
theorem bf_2000 : bfN 2000 = 730119 := rfl
theorem bf_lt {y : Nat} (h : y ≤ 10000) : bfN y ≤ 3652059 := by have := bf_mono h; rw [bf_10000] at this; exact this
/-- a date that there is -/
def VD (y m d : Nat) : Prop := (1 ≤ y ∧ y ≤ 9999) ∧ (1 ≤ m ∧ m ≤ 12) ∧ 1 ≤ d ∧ d ≤ mdN y m
instance (y m d : Nat) : Decidable (VD y m d) := by unfold VD; infer_instance
def dnN (y m d : Nat) : Nat := bfN y + cuN y (m - 1) + (d - 1)
/-- the date of a number -/
def IsD (n : Int) (y m d : Nat) : Prop := VD y m d ∧ (dnN y m d : Int) - 730119 = n
theorem dn_year {y m d : Nat} (h : VD y m d) : bfN y ≤ dnN y m d ∧ dnN y m d < bfN (y + 1) := by
  obtain ⟨⟨h1, h2⟩, ⟨h3, h4⟩, h5, h6⟩ := h
  have e := bf_next h1
  have c : cuN y (m - 1 + 1) = cuN y (m - 1) + mdN y (m - 1 + 1) := rfl
  rw [show m - 1 + 1 = m by omega] at c
  have k := cuN_mono y h4
  unfold dnN
  omega
theorem isD_one {n : Int} {y m d y' m' d' : Nat} (h : IsD n y m d) (h' : IsD n y' m' d') : y = y' ∧ m = m' ∧ d = d' := by
  have e : dnN y m d = dnN y' m' d' := by have := h.2; have := h'.2; omega
  have a := dn_year h.1
  have b := dn_year h'.1
  have ey : y = y' := by
    rcases Nat.lt_trichotomy y y' with k | k | k
    · have := bf_mono (show y + 1 ≤ y' from k); omega
    · exact k
    · have := bf_mono (show y' + 1 ≤ y from k); omega
  subst ey
  obtain ⟨_, ⟨h3, h4⟩, h5, h6⟩ := h.1
  obtain ⟨_, ⟨k3, k4⟩, k5, k6⟩ := h'.1
  have c : cuN y (m - 1 + 1) = cuN y (m - 1) + mdN y (m - 1 + 1) := rfl
  have c' : cuN y (m' - 1 + 1) = cuN y (m' - 1) + mdN y (m' - 1 + 1) := rfl
  rw [show m - 1 + 1 = m by omega] at c
  rw [show m' - 1 + 1 = m' by omega] at c'
  unfold dnN at e
  have em : m = m' := by
    rcases Nat.lt_trichotomy m m' with k | k | k
    · have := cuN_mono y (show m ≤ m' - 1 by omega); omega
    · exact k
    · have := cuN_mono y (show m' ≤ m - 1 by omega); omega
  subst em
  exact ⟨rfl, rfl, by omega⟩
theorem year_ex (N : Nat) : ∀ k, 1 ≤ k → N < bfN (k + 1) → ∃ y, 1 ≤ y ∧ y ≤ k ∧ bfN y ≤ N ∧ N < bfN (y + 1)
  | 0, h, _ => by omega
  | k + 1, _, h => by
    by_cases c : bfN (k + 1) ≤ N
    · exact ⟨k + 1, by omega, Nat.le_refl _, c, h⟩
    · by_cases k0 : k = 0
      · subst k0; rw [bf_1] at c; omega
      · obtain ⟨y, h1, h2, h3⟩ := year_ex N k (by omega) (by omega)
        exact ⟨y, h1, by omega, h3⟩
theorem month_ex (y r : Nat) : ∀ k, r < cuN y k → ∃ m, 1 ≤ m ∧ m ≤ k ∧ cuN y (m - 1) ≤ r ∧ r < cuN y m
  | 0, h => by simp [cuN] at h
  | k + 1, h => by
    by_cases c : cuN y k ≤ r
    · exact ⟨k + 1, by omega, Nat.le_refl _, by simpa using c, h⟩
    · obtain ⟨m, h1, h2, h3⟩ := month_ex y r k (by omega)
      exact ⟨m, h1, by omega, h3⟩
/-- each number in range has a date -/
theorem dat_ex {n : Int} (h0 : -730119 ≤ n) (h1 : n < 2921940) : ∃ y m d, IsD n y m d := by
  obtain ⟨N, hN⟩ : ∃ N : Nat, (N : Int) = n + 730119 := ⟨(n + 730119).toNat, by omega⟩
  obtain ⟨y, y1, y2, y3, y4⟩ := year_ex N 9999 (by omega) (by rw [bf_10000]; omega)
  rw [bf_next y1] at y4
  obtain ⟨m, m1, m2, m3, m4⟩ := month_ex y (N - bfN y) 12 (by omega)
  have c : cuN y (m - 1 + 1) = cuN y (m - 1) + mdN y (m - 1 + 1) := rfl
  rw [show m - 1 + 1 = m by omega] at c
  refine ⟨y, m, N - bfN y - cuN y (m - 1) + 1, ⟨⟨y1, y2⟩, ⟨m1, m2⟩, by omega, by omega⟩, ?_⟩
  unfold dnN
  omega
/-- two, four digits -/
def dg2 (n : Nat) : List UInt8 := [UInt8.ofNat (48 + n / 10), UInt8.ofNat (48 + n % 10)]
def dg4 (n : Nat) : List UInt8 := [UInt8.ofNat (48 + n / 1000), UInt8.ofNat (48 + n / 100 % 10), UInt8.ofNat (48 + n / 10 % 10), UInt8.ofNat (48 + n % 10)]
theorem dec_2 {n : Nat} (h : n < 100) : List.replicate (2 - (decDigits n).length) 48 ++ decDigits n = dg2 n := by
  unfold dg2
  by_cases h1 : n < 10
  · rw [dec_small h1, show n / 10 = 0 by omega, show n % 10 = n by omega]; rfl
  · rw [dec_big h1, dec_small (by omega)]; rfl
theorem dec_4 {n : Nat} (h : n < 10000) : List.replicate (4 - (decDigits n).length) 48 ++ decDigits n = dg4 n := by
  unfold dg4
  by_cases h1 : n < 10
  · rw [dec_small h1, show n / 1000 = 0 by omega, show n / 100 % 10 = 0 by omega, show n / 10 % 10 = 0 by omega, show n % 10 = n by omega]; rfl
  · by_cases h2 : n < 100
    · rw [dec_big h1, dec_small (show n / 10 < 10 by omega), show n / 1000 = 0 by omega, show n / 100 % 10 = 0 by omega, show n / 10 % 10 = n / 10 by omega]; rfl
    · by_cases h3 : n < 1000
      · rw [dec_big h1, dec_big (show ¬ n / 10 < 10 by omega), dec_small (show n / 10 / 10 < 10 by omega), show n / 1000 = 0 by omega, show n / 100 % 10 = n / 10 / 10 by omega]; rfl
      · rw [dec_big h1, dec_big (show ¬ n / 10 < 10 by omega), dec_big (show ¬ n / 10 / 10 < 10 by omega), dec_small (show n / 10 / 10 / 10 < 10 by omega), show n / 1000 = n / 10 / 10 / 10 by omega, show n / 100 % 10 = n / 10 / 10 % 10 by omega]; rfl
theorem dec_len2 {n : Nat} (h : n < 100) : (decDigits n).length ≤ 2 := by
  by_cases h1 : n < 10
  · rw [dec_small h1]; simp
  · rw [dec_big h1, dec_small (by omega)]; simp
theorem dec_len4 {n : Nat} (h : n < 10000) : (decDigits n).length ≤ 4 := by
  by_cases h1 : n < 10
  · rw [dec_small h1]; simp
  · by_cases h2 : n < 100
    · rw [dec_big h1, dec_small (show n / 10 < 10 by omega)]; simp
    · by_cases h3 : n < 1000
      · rw [dec_big h1, dec_big (show ¬ n / 10 < 10 by omega), dec_small (show n / 10 / 10 < 10 by omega)]; simp
      · rw [dec_big h1, dec_big (show ¬ n / 10 < 10 by omega), dec_big (show ¬ n / 10 / 10 < 10 by omega), dec_small (show n / 10 / 10 / 10 < 10 by omega)]; simp
/-- the time of day, the text of an instant -/
def hmT (s : Nat) : List UInt8 := dg2 (s / 3600) ++ 58 :: (dg2 (s / 60 % 60) ++ 58 :: dg2 (s % 60))
def ckT (y m d s : Nat) : List UInt8 := dg4 y ++ 45 :: (dg2 m ++ 45 :: (dg2 d ++ 32 :: hmT s))
theorem ckT_len (y m d s : Nat) : (ckT y m d s).length = 19 := rfl
/-- the parts of a text of an instant -/
structure Ck where
  y : Nat
  m : Nat
  d : Nat
  h : Nat
  i : Nat
  x : Nat
instance (c : UInt8) : Decidable (isDg c) := by unfold isDg; infer_instance
def ckF : List UInt8 → Option Ck
  | [a0, a1, a2, a3, p, b0, b1, q, c0, c1, r, h0, h1, u, i0, i1, v, x0, x1] =>
    if p = 45 ∧ q = 45 ∧ r = 32 ∧ u = 58 ∧ v = 58 ∧ ∀ z ∈ [a0, a1, a2, a3, b0, b1, c0, c1, h0, h1, i0, i1, x0, x1], isDg z then
      some ⟨valL 0 [a0, a1, a2, a3], valL 0 [b0, b1], valL 0 [c0, c1], valL 0 [h0, h1], valL 0 [i0, i1], valL 0 [x0, x1]⟩
    else none
  | _ => none
/-- the parts are those of an instant -/
def Ck.ok (c : Ck) : Prop := VD c.y c.m c.d ∧ c.h ≤ 23 ∧ c.i ≤ 59 ∧ c.x ≤ 59
instance (c : Ck) : Decidable c.ok := by unfold Ck.ok; infer_instance
def Ck.t (c : Ck) : Int := ((dnN c.y c.m c.d : Int) - 730119) * 86400 + (c.h * 3600 + c.i * 60 + c.x : Nat)
/-- what is read of a text: the instant, and an error number -/
def ckV (l : List UInt8) : Int × Int :=
  match ckF l with
  | none => (0, 7)
  | some c => if c.ok then (if -68719476736 ≤ c.t ∧ c.t ≤ 68719476736 then (c.t, 0) else (0, 5)) else (0, 7)
theorem dg_at {k : Nat} (h : k < 10) : isDg (UInt8.ofNat (48 + k)) := by unfold isDg; rw [dgN h]; omega
theorem val_2 {n : Nat} (h : n < 100) : valL 0 (dg2 n) = n := by
  show (0 * 10 + ((UInt8.ofNat (48 + n / 10)).toNat - 48)) * 10 + ((UInt8.ofNat (48 + n % 10)).toNat - 48) = n
  rw [dgN (by omega), dgN (by omega)]
  omega
theorem val_4 {n : Nat} (h : n < 10000) : valL 0 (dg4 n) = n := by
  show (((0 * 10 + ((UInt8.ofNat (48 + n / 1000)).toNat - 48)) * 10 + ((UInt8.ofNat (48 + n / 100 % 10)).toNat - 48)) * 10 + ((UInt8.ofNat (48 + n / 10 % 10)).toNat - 48)) * 10 + ((UInt8.ofNat (48 + n % 10)).toNat - 48) = n
  rw [dgN (by omega), dgN (by omega), dgN (by omega), dgN (by omega)]
  omega
theorem byte_dg {c : UInt8} (h : isDg c) : UInt8.ofNat (48 + (c.toNat - 48)) = c := by
  unfold isDg at h
  apply UInt8.toNat_inj.1
  rw [dgN (by omega)]
  omega
theorem back_2 {a b : UInt8} (ha : isDg a) (hb : isDg b) : dg2 (valL 0 [a, b]) = [a, b] := by
  have e : valL 0 [a, b] = (a.toNat - 48) * 10 + (b.toNat - 48) := by show (0 * 10 + (a.toNat - 48)) * 10 + (b.toNat - 48) = _; omega
  have ha' := ha
  have hb' := hb
  unfold isDg at ha' hb'
  unfold dg2
  rw [e, show ((a.toNat - 48) * 10 + (b.toNat - 48)) / 10 = a.toNat - 48 by omega, show ((a.toNat - 48) * 10 + (b.toNat - 48)) % 10 = b.toNat - 48 by omega, byte_dg ha, byte_dg hb]
theorem back_4 {a b c d : UInt8} (ha : isDg a) (hb : isDg b) (hc : isDg c) (hd : isDg d) : dg4 (valL 0 [a, b, c, d]) = [a, b, c, d] := by
  have e : valL 0 [a, b, c, d] = (((a.toNat - 48) * 10 + (b.toNat - 48)) * 10 + (c.toNat - 48)) * 10 + (d.toNat - 48) := by
    show (((0 * 10 + (a.toNat - 48)) * 10 + (b.toNat - 48)) * 10 + (c.toNat - 48)) * 10 + (d.toNat - 48) = _; omega
  have ha' := ha
  have hb' := hb
  have hc' := hc
  have hd' := hd
  unfold isDg at ha' hb' hc' hd'
  unfold dg4
  rw [e]
  generalize hA : a.toNat - 48 = A at *
  generalize hB : b.toNat - 48 = B at *
  generalize hC : c.toNat - 48 = C at *
  generalize hD : d.toNat - 48 = D at *
  rw [show (((A * 10 + B) * 10 + C) * 10 + D) / 1000 = A by omega, show (((A * 10 + B) * 10 + C) * 10 + D) / 100 % 10 = B by omega, show (((A * 10 + B) * 10 + C) * 10 + D) / 10 % 10 = C by omega, show (((A * 10 + B) * 10 + C) * 10 + D) % 10 = D by omega,
    ← hA, ← hB, ← hC, ← hD, byte_dg ha, byte_dg hb, byte_dg hc, byte_dg hd]
theorem val_lt2 {a b : UInt8} (ha : isDg a) (hb : isDg b) : valL 0 [a, b] < 100 := by
  have := valL_lt [a, b] (fun c hc => by simp at hc; rcases hc with rfl | rfl <;> assumption) 0
  simpa using this
/-- the text of a date and a time is read -/
theorem ckF_text {y m d s : Nat} (h : VD y m d) (hs : s < 86400) : ckF (ckT y m d s) = some ⟨y, m, d, s / 3600, s / 60 % 60, s % 60⟩ := by
  obtain ⟨⟨h1, h2⟩, ⟨h3, h4⟩, h5, h6⟩ := h
  have := md_bd y m h3 h4
  have e1 := val_4 (show y < 10000 by omega)
  have e2 := val_2 (show m < 100 by omega)
  have e3 := val_2 (show d < 100 by omega)
  have e4 := val_2 (show s / 3600 < 100 by omega)
  have e5 := val_2 (show s / 60 % 60 < 100 by omega)
  have e6 := val_2 (show s % 60 < 100 by omega)
  unfold dg4 at e1
  unfold dg2 at e2 e3 e4 e5 e6
  show (if _ ∧ _ ∧ _ ∧ _ ∧ _ ∧ _ then _ else _) = _
  rw [if_pos ⟨rfl, rfl, rfl, rfl, rfl, fun z hz => by
    simp only [List.mem_cons, List.not_mem_nil, or_false] at hz
    rcases hz with rfl | rfl | rfl | rfl | rfl | rfl | rfl | rfl | rfl | rfl | rfl | rfl | rfl | rfl <;> exact dg_at (by omega)⟩, e1, e2, e3, e4, e5, e6]
/-- what is read has the text -/
theorem ckF_back {l : List UInt8} {c : Ck} (h : ckF l = some c) (ho : c.ok) : l = ckT c.y c.m c.d (c.h * 3600 + c.i * 60 + c.x) := by
  unfold ckF at h
  split at h
  · rename_i a0 a1 a2 a3 p b0 b1 q c0 c1 r h0 h1 u i0 i1 v x0 x1
    split at h
    · rename_i hc
      obtain ⟨rfl, rfl, rfl, rfl, rfl, hz⟩ := hc
      injection h with h
      subst h
      obtain ⟨_, o1, o2, o3⟩ := ho
      simp only [List.mem_cons, List.not_mem_nil, or_false, forall_eq_or_imp, forall_eq] at hz
      obtain ⟨z0, z1, z2, z3, z4, z5, z6, z7, z8, z9, z10, z11, z12, z13⟩ := hz
      have k1 := back_4 z0 z1 z2 z3
      have k2 := back_2 z4 z5
      have k3 := back_2 z6 z7
      have k4 := back_2 z8 z9
      have k5 := back_2 z10 z11
      have k6 := back_2 z12 z13
      unfold ckT hmT
      dsimp only at *
      generalize valL 0 [a0, a1, a2, a3] = Y at *
      generalize valL 0 [b0, b1] = M at *
      generalize valL 0 [c0, c1] = D at *
      generalize valL 0 [h0, h1] = H at *
      generalize valL 0 [i0, i1] = I at *
      generalize valL 0 [x0, x1] = X at *
      rw [show (H * 3600 + I * 60 + X) / 3600 = H by omega, show (H * 3600 + I * 60 + X) / 60 % 60 = I by omega, show (H * 3600 + I * 60 + X) % 60 = X by omega, k1, k2, k3, k4, k5, k6]
      rfl
    · cases h
  · cases h
/-- the instant of a date and of seconds -/
theorem ckV_text {t : Int} {y m d : Nat} (h : IsD (t / 86400) y m d) (h0 : -68719476736 ≤ t) (h1 : t ≤ 68719476736) : ckV (ckT y m d (t % 86400).toNat) = (t, 0) := by
  have hs : (t % 86400).toNat < 86400 := by omega
  have e := ckF_text h.1 hs
  have ht : Ck.t ⟨y, m, d, (t % 86400).toNat / 3600, (t % 86400).toNat / 60 % 60, (t % 86400).toNat % 60⟩ = t := by
    unfold Ck.t
    dsimp only
    rw [h.2]
    omega
  unfold ckV
  rw [e]
  dsimp only
  rw [if_pos (show Ck.ok _ from ⟨h.1, by dsimp only; omega, by dsimp only; omega, by dsimp only; omega⟩), ht, if_pos ⟨h0, h1⟩]
theorem ckV_back {l : List UInt8} {t : Int} (h : ckV l = (t, 0)) : (-68719476736 ≤ t ∧ t ≤ 68719476736) ∧ ∃ y m d, IsD (t / 86400) y m d ∧ l = ckT y m d (t % 86400).toNat := by
  unfold ckV at h
  split at h
  · injection h with _ h; cases h
  · rename_i c hc
    split at h
    · rename_i ho
      split at h
      · rename_i hr
        injection h with h _
        subst h
        refine ⟨hr, c.y, c.m, c.d, ?_, ?_⟩
        · refine ⟨ho.1, ?_⟩
          obtain ⟨_, o1, o2, o3⟩ := ho
          unfold Ck.t
          omega
        · have := ckF_back hc ho
          obtain ⟨_, o1, o2, o3⟩ := ho
          rw [show (c.t % 86400).toNat = c.h * 3600 + c.i * 60 + c.x by unfold Ck.t; omega]
          exact this
      · injection h with _ h; cases h
    · injection h with _ h; cases h
end Go.Proofs.YtkjndkeboeieoaaGreatDoor

namespace Go.Proofs.YtkjndkeboeieoaaGreatDoor
open Go.RowKit

theorem grown_of_below {w w' : World} (h : Below w.heap.size w w') (row : Option Nat) : w.grownBy w' row := ⟨h.os, h.tape, h.output, h.size, fun i hi _ => h.block i hi⟩
theorem row_below {w w' : World} {base : Nat} {e : TypeId} {size n : Nat} {v : Value} {xs : List Value} (h : w.ownsRow base e size v n xs) (hb : Below w.heap.size w w') : w'.ownsRow base e size v n xs :=
  h.kept (grown_of_below hb none) (by cases v.ownBlock <;> simp)
theorem row_drew {w : World} {base : Nat} {e : TypeId} {size n : Nat} {v : Value} {xs : List Value} (h : w.ownsRow base e size v n xs) : w.drew.ownsRow base e size v n xs := h
theorem row_set {w : World} {base g : Nat} {e t : TypeId} {size n : Nat} {v : Value} {xs : List Value} {cs : Array Value} (h : w.ownsRow base e size v n xs) (hB : Blk w g t cs) (hne : e ≠ t) (i : Nat) (u : Value) :
    (w.setCell ⟨g, i, none⟩ u).ownsRow base e size v n xs := by
  have hn := own_blk_ne h hB hne
  refine h.kept (row := some g) ⟨rfl, rfl, rfl, by simp [World.setCell], fun k hk hne => ?_⟩ (.inr hn)
  exact Below.heap_setCell w ⟨g, i, none⟩ u k (fun e => hne (by rw [e]))
theorem Own.grown {w W W' : World} {L : List (Nat × TypeId × Array Value)} {e : TypeId} {size n : Nat} {v : Value} {xs : List Value} (h : Own w W L) (hrow : W.ownsRow w.heap.size e size v n xs) (hg : W.grownBy W' v.ownBlock)
    (hty : ∀ x ∈ L, e ≠ x.2.1) : Own w W' L :=
  ⟨h.1.grown hg h.1.size (fun k hk => (hrow.lt k hk).1), fun x hx => (h.2 x hx).grown hg (fun e' => own_blk_ne hrow (h.2 x hx) (hty x hx) e'.symm)⟩

/-- a slice of integers that reads as a list -/
def IntSl (w : World) (A : Option Addr) (l : List Int) : Prop :=
  (l.length ≤ 9223372036854775807 ∧ ∀ i (h : i < l.length), -9223372036854775808 ≤ l[i] ∧ l[i] ≤ 9223372036854775807) ∧ (0 < l.length → ∃ b off, A = some ⟨b, off, none⟩ ∧ b < w.heap.size ∧ ∀ i (h : i < l.length), w.cell? ⟨b, off + i, none⟩ = some (.int .i64 l[i]))
theorem IntSl.below {w w' : World} {A : Option Addr} {l : List Int} (h : IntSl w A l) (hb : Below w.heap.size w w') : IntSl w' A l :=
  ⟨h.1, fun hl => by obtain ⟨b, off, e, hlt, hat⟩ := h.2 hl; exact ⟨b, off, e, Nat.lt_of_lt_of_le hlt hb.size, fun i hi => (hb.cell (p := ⟨b, off + i, none⟩) hlt).trans (hat i hi)⟩⟩
theorem IntSl.nil (w : World) (A : Option Addr) : IntSl w A [] := ⟨⟨by simp, fun i h => by simp at h⟩, fun h => by simp at h⟩
/-- a row of the call's own that holds integers, read as a slice -/
theorem IntSl.of_row {w : World} {base : Nat} {e : TypeId} {v : Value} {n : Nat} {l : List Int} (h : w.ownsRow base e 1 v n (l.map (Value.int .i64)))
    (hb : l.length ≤ 9223372036854775807) (hr : ∀ i (h : i < l.length), -9223372036854775808 ≤ l[i] ∧ l[i] ≤ 9223372036854775807) : ∃ A c, v = .slice A l.length c ∧ IntSl w A l := by
  have hn : l.length = n := by have := h.1; simpa using this
  rcases h.2 with ⟨rfl, h0⟩ | ⟨g, cap, cur, rfl, hg, hcell, hnc, _, hsz, htake⟩
  · rw [h0] at hn
    have : l = [] := List.eq_nil_of_length_eq_zero hn
    subst this
    exact ⟨none, 0, rfl, IntSl.nil w none⟩
  · subst hn
    refine ⟨some ⟨g, 0, none⟩, cap, rfl, ⟨hb, hr⟩, fun _ => ⟨g, 0, rfl, (Array.getElem?_eq_some_iff.1 hcell).1, fun i hi => ?_⟩⟩
    have hc := h.cells (g := g) rfl i (.int .i64 l[i]) (by simp [hi])
    have e : (⟨g, 0, none⟩ : Addr).add i = ⟨g, 0 + i, none⟩ := by unfold Addr.add; split <;> simp_all
    rw [e] at hc
    exact hc
end Go.Proofs.YtkjndkeboeieoaaGreatDoor

namespace Go.Proofs.YtkjndkeboeieoaaGreatDoor
open Go.RowKit

theorem IntSl.atg {w : World} {A : Option Addr} {l : List Int} (h : IntSl w A l) (h0 : 0 < l.length) : ∃ b off, A = some ⟨b, off, none⟩ ∧ b < w.heap.size ∧ ∀ i, i < l.length → w.cell? ⟨b, off + i, none⟩ = some (.int .i64 (l.getD i 0)) := by
  obtain ⟨b, off, e, hb, hat⟩ := h.2 h0
  refine ⟨b, off, e, hb, fun i hi => ?_⟩
  rw [hat i hi]; simp [hi]
/-- a record of rain -/
structure Ser where
  fr : Int
  st : Int
  ds : List Int
structure SerA where
  A : Option Addr
  c : Nat
abbrev Ser.val (s : Ser) (a : SerA) : Value := .agg #[.int .i64 s.fr, .int .i64 s.st, .slice a.A s.ds.length a.c]
abbrev Ser.cells (s : Ser) (a : SerA) : Array Value := #[.int .i64 s.fr, .int .i64 s.st, .slice a.A s.ds.length a.c]
def SerSl (w : World) (s : Ser) (a : SerA) : Prop := IntSl w a.A s.ds ∧ s.ds.length ≤ a.c ∧ (-9223372036854775808 ≤ s.fr ∧ s.fr ≤ 9223372036854775807) ∧ (-9223372036854775808 ≤ s.st ∧ s.st ≤ 9223372036854775807)
theorem SerSl.below {w w' : World} {s : Ser} {a : SerA} (h : SerSl w s a) (hb : Below w.heap.size w w') : SerSl w' s a := ⟨h.1.below hb, h.2⟩
/-- an instant -/
def insB (t : Int) : Bool := decide (-68719476736 ≤ t ∧ t ≤ 68719476736)
def okD (l : List Int) : Bool := (List.range l.length).all fun i => decide (-1 ≤ l.getD i 0 ∧ l.getD i 0 ≤ 4194304)
def vS (s : Ser) : Bool := insB s.fr && (decide (1 ≤ s.st ∧ s.st ≤ 86400) && (decide (s.ds.length ≤ 10000) && (insB (s.fr + s.st * s.ds.length) && okD s.ds)))
theorem okD_iff {l : List Int} : okD l = true ↔ ∀ i, i < l.length → -1 ≤ l.getD i 0 ∧ l.getD i 0 ≤ 4194304 := by
  simp [okD, List.all_eq_true]
theorem okD_any (l : List Int) : l.any (fun d => decide (d < -1) || decide (4194304 < d)) = !okD l := by
  rw [Bool.eq_iff_iff]
  simp only [List.any_eq_true, Bool.or_eq_true, decide_eq_true_eq, Bool.not_eq_true', Bool.eq_false_iff, ne_eq, okD_iff]
  constructor
  · rintro ⟨x, hx, h⟩ k
    obtain ⟨i, hi, rfl⟩ := List.mem_iff_getElem.1 hx
    have := k i hi
    simp only [List.getD_eq_getElem?_getD, List.getElem?_eq_getElem hi, Option.getD_some] at this
    omega
  · intro h
    have : ∃ i, i < l.length ∧ ¬ (-1 ≤ l.getD i 0 ∧ l.getD i 0 ≤ 4194304) := by
      exact Classical.byContradiction fun k => h fun i hi => Classical.byContradiction fun k2 => k ⟨i, hi, k2⟩
    obtain ⟨i, hi, h2⟩ := this
    simp only [List.getD_eq_getElem?_getD, List.getElem?_eq_getElem hi, Option.getD_some] at h2
    exact ⟨l[i], List.getElem_mem hi, by omega⟩
/-- what a valid record is -/
structure VS (s : Ser) : Prop where
  fr : -68719476736 ≤ s.fr ∧ s.fr ≤ 68719476736
  st : 1 ≤ s.st ∧ s.st ≤ 86400
  le : s.ds.length ≤ 10000
  en : -68719476736 ≤ s.fr + s.st * s.ds.length ∧ s.fr + s.st * s.ds.length ≤ 68719476736
  ok : ∀ i, i < s.ds.length → -1 ≤ s.ds.getD i 0 ∧ s.ds.getD i 0 ≤ 4194304
theorem vS_iff {s : Ser} : vS s = true ↔ VS s := by
  unfold vS insB
  simp only [Bool.and_eq_true, decide_eq_true_eq, okD_iff]
  exact ⟨fun ⟨a, b, c, d, e⟩ => ⟨a, b, c, d, e⟩, fun h => ⟨h.fr, h.st, h.le, h.en, h.ok⟩⟩
/-- the sum of the first depths, a missing one counting as 0 -/
def ps (l : List Int) : Nat → Int | 0 => 0 | i + 1 => ps l i + max (l.getD i 0) 0
/-- the sum of the last k of the first i depths -/
def sk (l : List Int) (k i : Nat) : Int := ps l i - ps l (i - k)
theorem ps_mono (l : List Int) {i j : Nat} (h : i ≤ j) : ps l i ≤ ps l j := by
  induction j with
  | zero => have : i = 0 := by omega
            subst this; exact Int.le_refl _
  | succ j ih =>
    rcases Nat.lt_or_ge i (j + 1) with h1 | h1
    · have := ih (by omega)
      show ps l i ≤ ps l j + max (l.getD j 0) 0
      have : (0 : Int) ≤ max (l.getD j 0) 0 := Int.le_max_right _ _
      omega
    · have : i = j + 1 := by omega
      subst this; exact Int.le_refl _
theorem ps_nonneg (l : List Int) (i : Nat) : 0 ≤ ps l i := by have := ps_mono l (Nat.zero_le i); simpa [ps] using this
theorem ps_le {l : List Int} (h : ∀ i, i < l.length → l.getD i 0 ≤ 4194304) : ∀ i, i ≤ l.length → ps l i ≤ 4194304 * (i : Int)
  | 0, _ => by simp [ps]
  | i + 1, hi => by
    have := ps_le h i (by omega)
    have := h i (by omega)
    show ps l i + max (l.getD i 0) 0 ≤ _
    have : max (l.getD i 0) 0 ≤ 4194304 := Int.max_le.2 ⟨by omega, by omega⟩
    omega
theorem sk_bd (l : List Int) (k i : Nat) : 0 ≤ sk l k i ∧ sk l k i ≤ ps l i := by
  have := ps_mono l (Nat.sub_le i k)
  have := ps_nonneg l (i - k)
  unfold sk; omega
/-- the greatest sum of k neighbours so far, and where it begins (the program's) -/
def gm (l : List Int) (k : Nat) : Nat → Int | 0 => -1 | i + 1 => if k ≤ i + 1 ∧ gm l k i < sk l k (i + 1) then sk l k (i + 1) else gm l k i
def gf (l : List Int) (k : Nat) : Nat → Nat | 0 => 0 | i + 1 => if k ≤ i + 1 ∧ gm l k i < sk l k (i + 1) then i + 1 - k else gf l k i
/-- the greatest sum so far (the reference's of layer 19) -/
def rm (l : List Int) (k : Nat) : Nat → Int | 0 => 0 | i + 1 => if rm l k i < sk l k (i + 1) then sk l k (i + 1) else rm l k i
theorem gm_lt (l : List Int) (k : Nat) : ∀ i, i < k → gm l k i = -1
  | 0, _ => rfl
  | i + 1, h => by
    show (if k ≤ i + 1 ∧ _ then _ else gm l k i) = -1
    rw [if_neg (by omega)]
    exact gm_lt l k i (by omega)
theorem rm_lt (l : List Int) (k : Nat) : ∀ i, i ≤ k → rm l k i = ps l i
  | 0, _ => rfl
  | i + 1, h => by
    have e : sk l k (i + 1) = ps l (i + 1) := by
      unfold sk; rw [show i + 1 - k = 0 by omega]; simp [ps]
    show (if rm l k i < sk l k (i + 1) then sk l k (i + 1) else rm l k i) = _
    rw [rm_lt l k i (by omega), e]
    split
    · rfl
    · have := ps_mono l (Nat.le_succ i)
      have e2 : ps l (i + 1) = ps l (i.succ) := rfl
      omega
theorem gm_eq (l : List Int) (k : Nat) (hk : 1 ≤ k) : ∀ i, k ≤ i → gm l k i = rm l k i
  | 0, h => by omega
  | i + 1, h => by
    show (if k ≤ i + 1 ∧ gm l k i < sk l k (i + 1) then sk l k (i + 1) else gm l k i) = (if rm l k i < sk l k (i + 1) then sk l k (i + 1) else rm l k i)
    rcases Nat.lt_or_ge i k with h1 | h1
    · have e : i + 1 = k := by omega
      have s : sk l k (i + 1) = ps l (i + 1) := by unfold sk; rw [show i + 1 - k = 0 by omega]; simp [ps]
      rw [gm_lt l k i h1, rm_lt l k i (by omega), s]
      have m := ps_mono l (Nat.le_succ i)
      have e2 : ps l (i + 1) = ps l (i.succ) := rfl
      have n := ps_nonneg l (i + 1)
      rw [if_pos ⟨by omega, by omega⟩]
      split
      · rfl
      · omega
    · rw [gm_eq l k hk i h1]
      by_cases h2 : rm l k i < sk l k (i + 1)
      · rw [if_pos ⟨by omega, h2⟩, if_pos h2]
      · rw [if_neg (fun h => h2 h.2), if_neg h2]
theorem gm_bd (l : List Int) (k : Nat) : ∀ i, -1 ≤ gm l k i ∧ (gm l k i ≤ ps l i ∨ gm l k i = -1)
  | 0 => by simp [gm]
  | i + 1 => by
    have := gm_bd l k i
    have b := sk_bd l k (i + 1)
    have m := ps_mono l (Nat.le_succ i)
    have e2 : ps l (i + 1) = ps l (i.succ) := rfl
    show -1 ≤ (if k ≤ i + 1 ∧ gm l k i < sk l k (i + 1) then sk l k (i + 1) else gm l k i) ∧ ((if k ≤ i + 1 ∧ gm l k i < sk l k (i + 1) then sk l k (i + 1) else gm l k i) ≤ _ ∨ (if k ≤ i + 1 ∧ gm l k i < sk l k (i + 1) then sk l k (i + 1) else gm l k i) = -1)
    split <;> omega
theorem sk_step (l : List Int) (k i : Nat) : sk l k (i + 1) = sk l k i + max (l.getD i 0) 0 - (if k ≤ i then max (l.getD (i - k) 0) 0 else 0) := by
  unfold sk
  by_cases h : k ≤ i
  · rw [if_pos h, show i + 1 - k = (i - k) + 1 by omega]
    simp only [ps]; omega
  · rw [if_neg h, show i + 1 - k = 0 by omega, show i - k = 0 by omega]
    simp only [ps]; omega
end Go.Proofs.YtkjndkeboeieoaaGreatDoor
