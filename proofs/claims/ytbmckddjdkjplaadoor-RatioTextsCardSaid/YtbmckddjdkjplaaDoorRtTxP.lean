/- Texts of fractions: what the program and the reference read from a text; plain facts. -/
import Derived.Test.YtbmckddjdkjplaaDoorRtPlain
import Derived.Test.YtbmckddjdkjplaaDoorTxW
namespace Go.Proofs.YtbmckddjdkjplaaDoor
open Go.Lib

/-- the text of a fraction -/
def txF (a : Fr) : List UInt8 := if a.den = 1 then itoa a.num else itoa a.num ++ 47 :: itoa a.den
def cutN (s : List UInt8) : List UInt8 := (cut s [47]).1
def cutD (s : List UInt8) : List UInt8 := if (cut s [47]).2.2 then (cut s [47]).2.1 else [49]
def prF (s : List UInt8) : Fr := ⟨atV (cutN s), atV (cutD s)⟩
def prB (s : List UInt8) : Bool := atB (cutN s) && atB (cutD s) && vF (prF s) && decide (txF (prF s) = s)
theorem slash_itoa (n : Int) : (47 : UInt8) ∉ itoa n := by
  intro h
  rcases itoa_mem h with h | h
  · exact absurd h (by unfold isDg; decide)
  · exact absurd h (by decide)
theorem vF_in {a : Fr} (h : vF a = true) : 1 ≤ a.den ∧ a.den ≤ 1073741824 ∧ -1073741824 ≤ a.num ∧ a.num ≤ 1073741824 := by
  unfold vF at h
  rw [Bool.and_eq_true, decide_eq_true_eq] at h
  exact h.1
theorem itoa_one : itoa 1 = [49] := by decide +kernel
theorem pr_yes {a : Fr} (h : vF a = true) : prF (txF a) = a ∧ prB (txF a) = true := by
  obtain ⟨h1, h2, h3, h4⟩ := vF_in h
  obtain ⟨n1, n2⟩ := at_ok (atoi_itoa (n := a.num) (by omega) (by omega))
  obtain ⟨d1, d2⟩ := at_ok (atoi_itoa (n := a.den) (by omega) (by omega))
  have e : cutN (txF a) = itoa a.num ∧ cutD (txF a) = itoa a.den := by
    unfold cutN cutD txF
    by_cases hd : a.den = 1
    · rw [if_pos hd, cut_no (slash_itoa _)]
      exact ⟨rfl, by rw [hd, itoa_one]; rfl⟩
    · rw [if_neg hd]
      have := cut_at (t := []) (r := itoa a.den) (slash_itoa a.num)
      rw [List.singleton_append] at this
      rw [this]
      exact ⟨rfl, rfl⟩
  have ep : prF (txF a) = a := by unfold prF; rw [e.1, e.2, n1, d1]
  refine ⟨ep, ?_⟩
  unfold prB
  rw [ep, e.1, e.2, n2, d2, h]
  simp
theorem pr_inv {s : List UInt8} (h : prB s = true) : vF (prF s) = true ∧ txF (prF s) = s := by
  unfold prB at h
  simp only [Bool.and_eq_true, decide_eq_true_eq] at h
  exact ⟨h.1.2, h.2⟩
/-- the digits at the beginning, at most eleven -/
def dgB (c : UInt8) : Bool := decide (48 ≤ c.toNat ∧ c.toNat ≤ 57)
def dgT (l : List UInt8) : List UInt8 := (l.take 11).takeWhile dgB
theorem takeWhile_stop {p : UInt8 → Bool} : ∀ {l r : List UInt8}, (∀ c ∈ l, p c = true) → (∀ c, r.head? = some c → p c = false) → (l ++ r).takeWhile p = l
  | [], [], _, _ => rfl
  | [], c :: r, _, h => by simp [h c rfl]
  | c :: l, r, h, h' => by
    have := takeWhile_stop (l := l) (r := r) (fun x hx => h x (List.mem_cons_of_mem _ hx)) h'
    simp [h c (List.mem_cons_self ..), this]
theorem dec_len {k u : Nat} (hk : 1 ≤ k) (h : u < 10 ^ k) : (decDigits u).length ≤ k := by
  induction k generalizing u with
  | zero => omega
  | succ k ih =>
    by_cases h1 : u < 10
    · rw [dec_small h1]; simp
    · rw [dec_big h1, List.length_append]
      have hk1 : 1 ≤ k := by
        rcases Nat.eq_zero_or_pos k with rfl | h2
        · simp at h; omega
        · exact h2
      have := ih hk1 (u := u / 10) (by rw [Nat.pow_succ] at h; omega)
      simp; omega
theorem dgT_dec {u : Nat} {r : List UInt8} (h : u ≤ 1073741824) (hr : ∀ c, r.head? = some c → dgB c = false) : dgT (decDigits u ++ r) = decDigits u := by
  have hl := dec_len (k := 10) (u := u) (by omega) (by omega)
  unfold dgT
  rw [List.take_append, List.take_of_length_le (by omega)]
  refine takeWhile_stop (fun c hc => decide_eq_true (dec_dg _ c hc)) fun c hc => ?_
  cases r with
  | nil => simp at hc
  | cons x r =>
    obtain ⟨k, hk⟩ : ∃ k, 11 - (decDigits u).length = k + 1 := ⟨11 - (decDigits u).length - 1, by omega⟩
    rw [hk] at hc
    exact hr c (by simpa using hc)
/-- the reference's reading: the place of the first digit, the numerator's digits, the place behind them, the denominator's -/
def rdI (s : List UInt8) : Nat := if s.head? = some 45 then 1 else 0
def rdN (s : List UInt8) : List UInt8 := dgT (s.drop (rdI s))
def rdK (s : List UInt8) : Nat := rdI s + (rdN s).length
def rdS (s : List UInt8) : Bool := decide (s[rdK s]? = some 47)
def rdD (s : List UInt8) : List UInt8 := dgT (s.drop (rdK s + 1))
def rdE (s : List UInt8) : Nat := if rdS s then rdK s + 1 + (rdD s).length else rdK s
def rdF (s : List UInt8) : Fr := ⟨if rdI s = 1 then -(valL 0 (rdN s) : Int) else (valL 0 (rdN s) : Int), if rdS s then (valL 0 (rdD s) : Int) else 1⟩
def rdB (s : List UInt8) : Bool := decide (rdE s = s.length) && vF (rdF s) && decide (txF (rdF s) = s)
theorem rd_yes {a : Fr} (h : vF a = true) : rdF (txF a) = a ∧ rdB (txF a) = true := by
  obtain ⟨h1, h2, h3, h4⟩ := vF_in h
  obtain ⟨r, hr, hrd⟩ : ∃ r, txF a = itoa a.num ++ r ∧ ((a.den = 1 ∧ r = []) ∨ (a.den ≠ 1 ∧ r = 47 :: itoa a.den)) := by
    unfold txF
    by_cases hd : a.den = 1
    · rw [if_pos hd]; exact ⟨[], by simp, .inl ⟨hd, rfl⟩⟩
    · rw [if_neg hd]; exact ⟨_, rfl, .inr ⟨hd, rfl⟩⟩
  have hstop : ∀ c, r.head? = some c → dgB c = false := by
    intro c hc
    rcases hrd with ⟨_, rfl⟩ | ⟨_, rfl⟩
    · simp at hc
    · simp at hc; subst hc; decide
  have eI : rdI (txF a) = (if a.num < 0 then 1 else 0) ∧ (txF a).drop (rdI (txF a)) = decDigits a.num.natAbs ++ r := by
    rw [hr]
    by_cases hn : a.num < 0
    · rw [itoa_neg hn, if_pos hn]
      have : rdI (45 :: decDigits a.num.natAbs ++ r) = 1 := by simp [rdI]
      rw [this]
      exact ⟨rfl, rfl⟩
    · rw [itoa_pos (by omega), if_neg hn]
      have e0 : a.num.natAbs = a.num.toNat := by omega
      rw [e0]
      have : rdI (decDigits a.num.toNat ++ r) = 0 := by
        unfold rdI
        cases hd : decDigits a.num.toNat with
        | nil => exact absurd hd (dec_ne _)
        | cons c l =>
          have := dec_dg a.num.toNat c (hd ▸ List.mem_cons_self ..)
          rw [if_neg]
          intro e
          simp at e
          subst e
          exact absurd this (by unfold isDg; decide)
      rw [this]
      exact ⟨rfl, rfl⟩
  have eN : rdN (txF a) = decDigits a.num.natAbs := by unfold rdN; rw [eI.2]; exact dgT_dec (by omega) hstop
  have lenI : (itoa a.num).length = rdK (txF a) := by
    unfold rdK
    rw [eN, eI.1]
    by_cases hn : a.num < 0
    · rw [itoa_neg hn, if_pos hn, List.length_cons]; omega
    · rw [itoa_pos (by omega), if_neg hn, show a.num.natAbs = a.num.toNat by omega]; omega
  have eS : rdS (txF a) = decide (a.den ≠ 1) := by
    unfold rdS
    rw [← lenI, hr, List.getElem?_append_right (Nat.le_refl _), Nat.sub_self]
    rcases hrd with ⟨hd, rfl⟩ | ⟨hd, rfl⟩
    · simp [hd]
    · simp [hd]
  have eD : a.den ≠ 1 → rdD (txF a) = decDigits a.den.natAbs := by
    intro hd
    rcases hrd with ⟨hd', _⟩ | ⟨_, rfl⟩
    · exact absurd hd' hd
    · unfold rdD
      rw [← lenI, hr, itoa_pos (n := a.den) (by omega), show (itoa a.num ++ 47 :: decDigits a.den.toNat).drop ((itoa a.num).length + 1) = decDigits a.den.toNat ++ [] by simp [List.drop_append]]
      rw [show a.den.natAbs = a.den.toNat by omega]
      exact dgT_dec (by omega) (by simp)
  have eF : rdF (txF a) = a := by
    have q1 : (if rdI (txF a) = 1 then -(valL 0 (rdN (txF a)) : Int) else (valL 0 (rdN (txF a)) : Int)) = a.num := by
      rw [eN, valL_dec, eI.1]
      by_cases hn : a.num < 0
      · rw [if_pos hn, if_pos rfl]; omega
      · rw [if_neg hn, if_neg (by omega)]; omega
    have q2 : (if rdS (txF a) then (valL 0 (rdD (txF a)) : Int) else 1) = a.den := by
      rw [eS]
      by_cases hd : a.den = 1
      · simp [hd]
      · rw [eD hd, valL_dec]; simp [hd]; omega
    unfold rdF
    rw [q1, q2]
  refine ⟨eF, ?_⟩
  unfold rdB
  rw [eF, h]
  have : rdE (txF a) = (txF a).length := by
    unfold rdE
    rw [eS]
    rcases hrd with ⟨hd, rfl⟩ | ⟨hd, rfl⟩
    · have e : txF a = itoa a.num := by rw [hr, List.append_nil]
      rw [if_neg (by simp [hd]), ← lenI, e]
    · rw [eD hd, ← lenI, hr, itoa_pos (n := a.den) (by omega), show a.den.natAbs = a.den.toNat by omega]
      simp [hd]; omega
  simp [this]
theorem rd_inv {s : List UInt8} (h : rdB s = true) : vF (rdF s) = true ∧ txF (rdF s) = s := by
  unfold rdB at h
  simp only [Bool.and_eq_true, decide_eq_true_eq] at h
  exact ⟨h.1.2, h.2⟩
/-- the program reads a text exactly if the reference does, and the same fraction -/
theorem read_same (s : List UInt8) : prB s = rdB s ∧ (rdB s = true → prF s = rdF s) := by
  have k1 : prB s = true → rdB s = true ∧ rdF s = prF s := fun h => by
    obtain ⟨v, t⟩ := pr_inv h
    have := rd_yes v
    rw [t] at this
    exact ⟨this.2, this.1⟩
  have k2 : rdB s = true → prB s = true := fun h => by
    obtain ⟨v, t⟩ := rd_inv h
    have := pr_yes v
    rw [t] at this
    exact this.2
  exact ⟨Bool.eq_iff_iff.2 ⟨fun h => (k1 h).1, k2⟩, fun h => (k1 (k2 h)).2.symm⟩
end Go.Proofs.YtbmckddjdkjplaaDoor
