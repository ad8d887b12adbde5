/- Texts of spans: what the program and the reference read from a text; plain facts. -/
import Derived.Test.YtgflgnbbkhikcaaDoorSpPlain
import Derived.Test.YtgflgnbbkhikcaaDoorTxW
namespace Go.Proofs.YtgflgnbbkhikcaaDoor
open Go.Lib

/-- the text of a span -/
def txS (a : Sp) : List UInt8 := if a.lo = a.hi then itoa a.lo else itoa a.lo ++ 46 :: 46 :: itoa a.hi
def cutL (s : List UInt8) : List UInt8 := (cut s [46, 46]).1
def cutH (s : List UInt8) : List UInt8 := if (cut s [46, 46]).2.2 then (cut s [46, 46]).2.1 else (cut s [46, 46]).1
def psS (s : List UInt8) : Sp := ⟨atV (cutL s), atV (cutH s)⟩
def psB (s : List UInt8) : Bool := atB (cutL s) && atB (cutH s) && vB (psS s) && decide (txS (psS s) = s)
theorem dot_itoa (n : Int) : (46 : UInt8) ∉ itoa n := by
  intro h
  rcases itoa_mem h with h | h
  · exact absurd h (by unfold isDg; decide)
  · exact absurd h (by decide)
theorem vB_in {a : Sp} (h : vB a = true) : a.lo ≤ a.hi ∧ -72057594037927936 ≤ a.lo ∧ a.lo ≤ 72057594037927936 ∧ -72057594037927936 ≤ a.hi ∧ a.hi ≤ 72057594037927936 := by
  obtain ⟨h1, h2, h3⟩ := vB_iff.1 h
  omega
theorem ps_yes {a : Sp} (h : vB a = true) : psS (txS a) = a ∧ psB (txS a) = true := by
  obtain ⟨h0, h1, h2, h3, h4⟩ := vB_in h
  obtain ⟨n1, n2⟩ := at_ok (atoi_itoa (n := a.lo) (by omega) (by omega))
  obtain ⟨d1, d2⟩ := at_ok (atoi_itoa (n := a.hi) (by omega) (by omega))
  have e : cutL (txS a) = itoa a.lo ∧ cutH (txS a) = itoa a.hi := by
    unfold cutL cutH txS
    by_cases hd : a.lo = a.hi
    · rw [if_pos hd, cut_no (dot_itoa _)]
      exact ⟨rfl, by rw [hd]; rfl⟩
    · rw [if_neg hd]
      have := cut_at (t := [46]) (r := itoa a.hi) (dot_itoa a.lo)
      rw [show ([46, 46] : List UInt8) ++ itoa a.hi = 46 :: 46 :: itoa a.hi from rfl] at this
      rw [this]
      exact ⟨rfl, rfl⟩
  have ep : psS (txS a) = a := by unfold psS; rw [e.1, e.2, n1, d1]
  refine ⟨ep, ?_⟩
  unfold psB
  rw [ep, e.1, e.2, n2, d2, h]
  simp
theorem ps_inv {s : List UInt8} (h : psB s = true) : vB (psS s) = true ∧ txS (psS s) = s := by
  unfold psB at h
  simp only [Bool.and_eq_true, decide_eq_true_eq] at h
  exact ⟨h.1.2, h.2⟩
/-- the reference's reading of an int: its digits, none where a byte is no digit or the number is already greater than 2^57 -/
def dgB (c : UInt8) : Bool := decide (48 ≤ c.toNat ∧ c.toNat ≤ 57)
def rdD : Nat → List UInt8 → Option Nat
  | acc, [] => some acc
  | acc, c :: r => if dgB c = false ∨ 144115188075855872 < acc then none else rdD (acc * 10 + (c.toNat - 48)) r
def rdT (s : List UInt8) : List UInt8 := if s.head? = some 45 then s.tail else s
def rdV (s : List UInt8) : Int := match rdD 0 (rdT s) with | none => 0 | some n => if s.head? = some 45 then -(n : Int) else (n : Int)
def rdB (s : List UInt8) : Bool := match rdD 0 (rdT s) with | none => false | some _ => decide (rdV s ≤ 144115188075855872) && decide (-144115188075855872 ≤ rdV s) && decide (itoa (rdV s) = s)
theorem rdD_digits (l : List UInt8) (h : ∀ c ∈ l, isDg c) (acc : Nat) (hv : valL acc l ≤ 144115188075855872) : rdD acc l = some (valL acc l) := by
  induction l generalizing acc with
  | nil => rfl
  | cons c r ih =>
    have h2 : dgB c = true := decide_eq_true (h c (List.mem_cons_self ..))
    have hg := valL_ge (acc * 10 + (c.toNat - 48)) r
    have e : valL acc (c :: r) = valL (acc * 10 + (c.toNat - 48)) r := rfl
    rw [e] at hv ⊢
    rw [rdD, if_neg (by rw [h2]; simp; omega)]
    exact ih (fun x hx => h x (List.mem_cons_of_mem _ hx)) _ hv
theorem head_dec (u : Nat) : (decDigits u).head? ≠ some 45 := by
  intro e
  cases hd : decDigits u with
  | nil => exact absurd hd (dec_ne _)
  | cons c l =>
    rw [hd] at e
    simp at e
    subst e
    exact absurd (dec_dg u 45 (hd ▸ List.mem_cons_self ..)) (by unfold isDg; decide)
theorem rd_itoa {v : Int} (h1 : -144115188075855872 ≤ v) (h2 : v ≤ 144115188075855872) : rdV (itoa v) = v ∧ rdB (itoa v) = true := by
  have key : rdD 0 (rdT (itoa v)) = some v.natAbs ∧ ((itoa v).head? = some 45 ↔ v < 0) := by
    by_cases hn : v < 0
    · rw [itoa_neg hn]
      refine ⟨?_, by simp [hn]⟩
      have e : rdT (45 :: decDigits v.natAbs) = decDigits v.natAbs := by simp [rdT]
      rw [e, rdD_digits _ (dec_dg _) 0 (by rw [valL_dec]; omega), valL_dec]
    · rw [itoa_pos (by omega)]
      refine ⟨?_, ?_⟩
      · unfold rdT
        rw [if_neg (head_dec _), rdD_digits _ (dec_dg _) 0 (by rw [valL_dec]; omega), valL_dec]
        congr 1
        omega
      · exact ⟨fun h => absurd h (head_dec _), fun h => absurd h hn⟩
  have e : rdV (itoa v) = v := by
    unfold rdV
    rw [key.1]
    show (if (itoa v).head? = some 45 then -(v.natAbs : Int) else (v.natAbs : Int)) = v
    by_cases hn : v < 0
    · rw [if_pos (key.2.2 hn)]; omega
    · rw [if_neg (fun h => hn (key.2.1 h))]; omega
  refine ⟨e, ?_⟩
  unfold rdB
  rw [key.1, e]
  simp [h1, h2]
theorem rd_inv {s : List UInt8} (h : rdB s = true) : itoa (rdV s) = s ∧ -144115188075855872 ≤ rdV s ∧ rdV s ≤ 144115188075855872 := by
  unfold rdB at h
  split at h
  · cases h
  · simp only [Bool.and_eq_true, decide_eq_true_eq] at h
    exact ⟨h.2, h.1.2, h.1.1⟩
/-- the place of the first two dots -/
def dots : List UInt8 → Nat
  | [] => 0
  | c :: r => if c = 46 ∧ r.head? = some 46 then 0 else dots r + 1
def rsB (s : List UInt8) : Bool :=
  if dots s < s.length then rdB (s.take (dots s)) && rdB (s.drop (dots s + 2)) && decide (rdV (s.take (dots s)) < rdV (s.drop (dots s + 2))) && vB ⟨rdV (s.take (dots s)), rdV (s.drop (dots s + 2))⟩
  else rdB s && vB ⟨rdV s, rdV s⟩
def rsS (s : List UInt8) : Sp := if dots s < s.length then ⟨rdV (s.take (dots s)), rdV (s.drop (dots s + 2))⟩ else ⟨rdV s, rdV s⟩
theorem dots_no : ∀ {s : List UInt8}, (46 : UInt8) ∉ s → dots s = s.length
  | [], _ => rfl
  | c :: r, h => by
    have n1 : ¬ (c = 46 ∧ r.head? = some 46) := fun h' => h (by rw [h'.1]; exact List.mem_cons_self ..)
    rw [dots, if_neg n1, dots_no (fun h' => h (List.mem_cons_of_mem _ h')), List.length_cons]
theorem dots_at : ∀ {a r : List UInt8}, (46 : UInt8) ∉ a → dots (a ++ 46 :: 46 :: r) = a.length
  | [], r, _ => by simp [dots]
  | c :: a, r, h => by
    have n1 : ¬ (c = 46 ∧ (a ++ 46 :: 46 :: r).head? = some 46) := fun h' => h (by rw [h'.1]; exact List.mem_cons_self ..)
    rw [List.cons_append, dots, if_neg n1, dots_at (fun h' => h (List.mem_cons_of_mem _ h')), List.length_cons]
theorem dots_le : ∀ (s : List UInt8), dots s ≤ s.length
  | [] => Nat.le_refl _
  | c :: r => by
    rw [dots, List.length_cons]
    have := dots_le r
    split <;> omega
theorem dots_lt : ∀ {s : List UInt8}, dots s < s.length → s = s.take (dots s) ++ 46 :: 46 :: s.drop (dots s + 2)
  | [], h => absurd h (by simp)
  | c :: r, h => by
    rw [dots] at h ⊢
    by_cases hc : c = 46 ∧ r.head? = some 46
    · rw [if_pos hc]
      obtain ⟨rfl, hr⟩ := hc
      cases r with
      | nil => simp at hr
      | cons d r => simp at hr; subst hr; rfl
    · rw [if_neg hc] at h ⊢
      have := dots_lt (s := r) (by simpa using h)
      simp only [List.take_succ_cons, List.cons_append, List.drop_succ_cons]
      exact congrArg (c :: ·) this
theorem rs_yes {a : Sp} (h : vB a = true) : rsS (txS a) = a ∧ rsB (txS a) = true := by
  obtain ⟨h0, h1, h2, h3, h4⟩ := vB_in h
  obtain ⟨n1, n2⟩ := rd_itoa (v := a.lo) (by omega) (by omega)
  obtain ⟨d1, d2⟩ := rd_itoa (v := a.hi) (by omega) (by omega)
  by_cases hd : a.lo = a.hi
  · have e : txS a = itoa a.lo := by unfold txS; rw [if_pos hd]
    have en : ¬ dots (itoa a.lo) < (itoa a.lo).length := by rw [dots_no (dot_itoa _)]; omega
    have ea : (⟨a.lo, a.lo⟩ : Sp) = a := by cases a; simp at hd; subst hd; rfl
    rw [e]
    unfold rsS rsB
    rw [if_neg en, if_neg en, n1, n2, ea, h]
    exact ⟨rfl, rfl⟩
  · have e : txS a = itoa a.lo ++ 46 :: 46 :: itoa a.hi := by unfold txS; rw [if_neg hd]
    have ed := dots_at (r := itoa a.hi) (dot_itoa a.lo)
    have et : dots (txS a) < (txS a).length := by rw [e, ed, List.length_append]; simp
    have e1 : (txS a).take (dots (txS a)) = itoa a.lo := by rw [e, ed]; simp
    have e2 : (txS a).drop (dots (txS a) + 2) = itoa a.hi := by rw [e, ed]; simp [List.drop_append]
    unfold rsS rsB
    rw [if_pos et, if_pos et, e1, e2, n1, d1, n2, d2, h]
    exact ⟨rfl, by simp; omega⟩
theorem rs_inv {s : List UInt8} (h : rsB s = true) : vB (rsS s) = true ∧ txS (rsS s) = s := by
  unfold rsB at h
  unfold rsS
  by_cases hd : dots s < s.length
  · rw [if_pos hd] at h ⊢
    simp only [Bool.and_eq_true, decide_eq_true_eq] at h
    obtain ⟨⟨⟨h1, h2⟩, h3⟩, h4⟩ := h
    refine ⟨h4, ?_⟩
    unfold txS
    rw [if_neg (by simp; omega)]
    rw [(rd_inv h1).1, (rd_inv h2).1]
    exact (dots_lt hd).symm
  · rw [if_neg hd] at h ⊢
    simp only [Bool.and_eq_true] at h
    refine ⟨h.2, ?_⟩
    unfold txS
    rw [if_pos rfl]
    exact (rd_inv h.1).1
/-- the program reads a text exactly if the reference does, and the same span -/
theorem reads_same (s : List UInt8) : psB s = rsB s ∧ (rsB s = true → psS s = rsS s) := by
  have k1 : psB s = true → rsB s = true ∧ rsS s = psS s := fun h => by
    obtain ⟨v, t⟩ := ps_inv h
    have := rs_yes v
    rw [t] at this
    exact ⟨this.2, this.1⟩
  have k2 : rsB s = true → psB s = true := fun h => by
    obtain ⟨v, t⟩ := rs_inv h
    have := ps_yes v
    rw [t] at this
    exact this.2
  exact ⟨Bool.eq_iff_iff.2 ⟨fun h => (k1 h).1, k2⟩, fun h => (k1 (k2 h)).2.symm⟩
end Go.Proofs.YtgflgnbbkhikcaaDoor
