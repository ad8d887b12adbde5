/- Lists of classes as texts: what the program and the reference read, and write; that a list is read from its text, and what is read has the text; plain facts. -/
import Derived.Test.YtaaadejamjbcbaaDoorNumP
import Derived.Test.YtaaadejamjbcbaaDoorPtsP
import Derived.Test.YtaaadejamjbcbaaDoorClsPlain
namespace Go.Proofs.YtaaadejamjbcbaaDoor
open Go Go.Lib

/-- parts joined by bytes c -/
def jn (c : UInt8) : List (List UInt8) → List UInt8
  | [] => []
  | [p] => p
  | p :: q :: r => p ++ c :: jn c (q :: r)
theorem jn_pts (c : UInt8) : ∀ l, jn c (pts c l) = l
  | [] => rfl
  | b :: r => by
    have ih := jn_pts c r
    rw [pts]
    by_cases h : b = c
    · subst h
      rw [if_pos rfl]
      cases hp : pts b r with
      | nil => exact absurd hp (pts_ne b r)
      | cons p t => rw [hp] at ih; rw [jn, ih]; rfl
    · rw [if_neg h]
      cases hp : pts c r with
      | nil => exact absurd hp (pts_ne c r)
      | cons p t =>
        rw [hp] at ih
        cases t with
        | nil => simp only [jn] at ih ⊢; rw [ih]
        | cons q t => simp only [jn] at ih ⊢; rw [← ih]; rfl
theorem pts_mem {c : UInt8} : ∀ {l : List UInt8}, ∀ p ∈ pts c l, c ∉ p
  | [], p, h => by simp [pts] at h; simp [h]
  | b :: r, p, h => by
    have ih := fun p h => pts_mem (c := c) (l := r) p h
    rw [pts] at h
    by_cases hb : b = c
    · rw [if_pos hb] at h
      rcases List.mem_cons.1 h with rfl | h
      · simp
      · exact ih p h
    · rw [if_neg hb] at h
      cases hp : pts c r with
      | nil => exact absurd hp (pts_ne c r)
      | cons q t =>
        rw [hp] at h ih
        rcases List.mem_cons.1 h with rfl | h
        · intro e
          rcases List.mem_cons.1 e with e | e
          · exact hb e.symm
          · exact ih q (List.mem_cons_self ..) e
        · exact ih p (List.mem_cons_of_mem _ h)
/-- a text's lines, each with its end -/
def lnsOf : List (List UInt8) → List (List UInt8)
  | [] => []
  | [p] => if p = [] then [] else [p]
  | p :: q :: r => (p ++ [10]) :: lnsOf (q :: r)
def lns (l : List UInt8) : List (List UInt8) := lnsOf (pts 10 l)
theorem lns_nil : lns [] = [] := rfl
theorem lns_one {a : List UInt8} (h : (10 : UInt8) ∉ a) (h1 : a ≠ []) : lns a = [a] := by
  unfold lns; rw [pts_no h, lnsOf, if_neg h1]
theorem lns_at {a r : List UInt8} (h : (10 : UInt8) ∉ a) : lns (a ++ 10 :: r) = (a ++ [10]) :: lns r := by
  unfold lns
  rw [pts_at h]
  cases hp : pts 10 r with
  | nil => exact absurd hp (pts_ne 10 r)
  | cons p t => rw [lnsOf]
theorem lnsOf_len : ∀ (ps : List (List UInt8)) (n : Nat), (∀ p ∈ ps, p.length ≤ n) → ∀ x ∈ lnsOf ps, x.length ≤ n + 1
  | [], _, _, x, h => by simp [lnsOf] at h
  | [p], n, hp, x, h => by
    rw [lnsOf] at h
    split at h
    · simp at h
    · rw [List.mem_singleton.1 h]
      have := hp p (List.mem_cons_self ..)
      omega
  | p :: q :: r, n, hp, x, h => by
    rw [lnsOf] at h
    rcases List.mem_cons.1 h with rfl | h
    · have := hp p (List.mem_cons_self ..)
      simp; exact this
    · exact lnsOf_len (q :: r) n (fun y hy => hp y (List.mem_cons_of_mem _ hy)) x h
/-- a class by its words -/
def cnvB (ws : List (List UInt8)) : Bool := match ws with
  | [a, b, c, d, e] => nameB a && rnB b && rnB c && rnB d && rnB e
  | _ => false
def cnvC (ws : List (List UInt8)) : Cls := match ws with
  | [a, b, c, d, e] => ⟨⟨a.toArray⟩, (valL 0 b : Nat), (valL 0 c : Nat), (valL 0 d : Nat), (valL 0 e : Nat)⟩
  | _ => ⟨⟨#[]⟩, 0, 0, 0, 0⟩
def clB (l : List UInt8) : Bool := cnvB (pts 32 l)
def clC (l : List UInt8) : Cls := cnvC (pts 32 l)
def doneE (acc : List Cls) : Int := if validB acc then 0 else 1
def doneL (acc : List Cls) : List Cls := if validB acc then acc else []
/-- what is read of parts: the list, the line of an error (0: none), and the error -/
def prs : List (List UInt8) → Nat → List Cls → List Cls × Int × Int
  | [], _, acc => (doneL acc, 0, doneE acc)
  | [p], i, acc => if p = [] then (doneL acc, 0, doneE acc) else ([], (i : Int) + 1, 7)
  | p :: q :: r, i, acc => if clB p = true then prs (q :: r) (i + 1) (acc ++ [clC p]) else ([], (i : Int) + 1, 7)
def endB (x : List UInt8) : Bool := hasSuffix x [10]
def bodyL (x : List UInt8) : List UInt8 := if endB x then x.take (x.length - 1) else x
/-- the same, of lines -/
def prsL : List (List UInt8) → Nat → List Cls → List Cls × Int × Int
  | [], _, acc => (doneL acc, 0, doneE acc)
  | x :: r, i, acc => if clB (bodyL x) = true ∧ endB x = true then prsL r (i + 1) (acc ++ [clC (bodyL x)]) else ([], (i : Int) + 1, 7)
theorem end_yes (p : List UInt8) : endB (p ++ [10]) = true ∧ bodyL (p ++ [10]) = p := by
  have h : endB (p ++ [10]) = true := by
    unfold endB hasSuffix
    rw [List.isSuffixOf_iff_suffix]
    exact ⟨p, rfl⟩
  refine ⟨h, ?_⟩
  unfold bodyL
  rw [if_pos h]
  simp
theorem end_no {p : List UInt8} (h : (10 : UInt8) ∉ p) : endB p = false := by
  rcases Bool.eq_false_or_eq_true (endB p) with h1 | h1
  · unfold endB hasSuffix at h1
    rw [List.isSuffixOf_iff_suffix] at h1
    obtain ⟨t, rfl⟩ := h1
    simp at h
  · exact h1
theorem prs_lines : ∀ (ps : List (List UInt8)), (∀ p ∈ ps, (10 : UInt8) ∉ p) → ∀ i acc, prs ps i acc = prsL (lnsOf ps) i acc
  | [], _, _, _ => rfl
  | [p], h, i, acc => by
    rw [prs, lnsOf]
    by_cases hp : p = []
    · rw [if_pos hp, if_pos hp]; rfl
    · rw [if_neg hp, if_neg hp, prsL, end_no (h p (List.mem_cons_self ..))]
      simp
  | p :: q :: r, h, i, acc => by
    rw [prs, lnsOf, prsL, (end_yes p).1, (end_yes p).2, prs_lines (q :: r) (fun x hx => h x (List.mem_cons_of_mem _ hx))]
    simp
theorem prs_lns (s : List UInt8) : prs (pts 10 s) 0 [] = prsL (lns s) 0 [] := prs_lines _ (fun p hp => pts_mem p hp) 0 []
/-- the text of a class, without the line's end; of a list -/
def txC (c : Cls) : List UInt8 := c.nm.data.toList ++ (32 :: itoa c.se) ++ (32 :: itoa c.we) ++ (32 :: itoa c.ro) ++ (32 :: itoa c.dr)
def txL : List Cls → List UInt8
  | [] => []
  | c :: r => txC c ++ 10 :: txL r
theorem txL_append (a b : List Cls) : txL (a ++ b) = txL a ++ txL b := by
  induction a with
  | nil => rfl
  | cons c a ih => simp [txL, ih]
theorem dg_no {c : UInt8} (h : c.toNat < 48) {l : List UInt8} (hl : ∀ x ∈ l, isDg x) : c ∉ l := by
  intro e
  have := hl c e
  unfold isDg at this
  omega
theorem itoa_no {c : UInt8} (h : c.toNat < 45) (n : Int) : c ∉ itoa n := by
  intro e
  rcases itoa_mem e with h1 | h1
  · unfold isDg at h1; omega
  · omega
theorem name_no {c : UInt8} (h : c.toNat < 48) {l : List UInt8} (hl : nameB l = true) : c ∉ l := by
  cases l with
  | nil => simp
  | cons x r =>
    simp only [nameB, Bool.and_eq_true, decide_eq_true_eq] at hl
    have hw := hl.2
    have hall : ∀ y ∈ x :: r, wdB (y.toNat : Int) = true := by
      unfold wl at hw
      have e : ((x :: r).takeWhile fun b => wdB (b.toNat : Int)) = x :: r := List.IsPrefix.eq_of_length (List.takeWhile_prefix _) (by simpa using hw)
      have ha : ((x :: r).takeWhile fun b => wdB (b.toNat : Int)).all (fun b => wdB (b.toNat : Int)) = true := List.all_takeWhile
      rw [e, List.all_eq_true] at ha
      exact ha
    intro e
    have := hall c e
    simp only [wdB, letB, digB, Bool.or_eq_true, decide_eq_true_eq, beq_iff_eq] at this
    omega
theorem rn_dec {n : Int} (h0 : 0 ≤ n) (h1 : n < 1000000000) : rnB (itoa n) = true ∧ (valL 0 (itoa n) : Int) = n := by
  rw [itoa_pos h0]
  refine ⟨?_, by rw [valL_dec]; omega⟩
  have hd := dec_dg n.toNat
  unfold rnB
  simp only [Bool.and_eq_true, decide_eq_true_eq, Bool.not_eq_true', Bool.and_eq_false_iff, decide_eq_false_iff_not]
  refine ⟨⟨⟨List.length_pos_iff.2 (dec_ne _), ?_⟩, ?_⟩, all_dg.2 hd⟩
  · rcases Nat.lt_or_ge 9 (decDigits n.toNat).length with h | h
    · exfalso
      have hz : 1 < (decDigits n.toNat).length → (decDigits n.toNat).head?.map UInt8.toNat ≠ some 48 := fun h => dec_head (dec_len1 h)
      have hv := valL_dec n.toNat
      -- ten digits without superfluous zeros are 10 ^ 9 at least
      have key : ∀ (l : List UInt8) (a : Nat), 1 ≤ a → (∀ c ∈ l, isDg c) → a * 10 ^ l.length ≤ valL a l := by
        intro l
        induction l with
        | nil => intro a _ _; simp [valL]
        | cons c r ih =>
          intro a ha hc
          have := ih (a * 10 + (c.toNat - 48)) (by omega) (fun x hx => hc x (List.mem_cons_of_mem _ hx))
          show a * 10 ^ (r.length + 1) ≤ valL (a * 10 + (c.toNat - 48)) r
          refine Nat.le_trans ?_ this
          rw [Nat.pow_succ, Nat.mul_comm (10 ^ r.length) 10, ← Nat.mul_assoc]
          exact Nat.mul_le_mul_right _ (by omega)
      cases hl : decDigits n.toNat with
      | nil => exact absurd hl (dec_ne _)
      | cons c r =>
        rw [hl] at h hz hv hd
        have h2 := hd c (List.mem_cons_self ..)
        unfold isDg at h2
        have h3 : c.toNat ≠ 48 := fun e => hz (by omega) (by simp [e])
        have := key r (0 * 10 + (c.toNat - 48)) (by omega) (fun x hx => hd x (List.mem_cons_of_mem _ hx))
        have hv' : valL (0 * 10 + (c.toNat - 48)) r = n.toNat := hv
        have h9 : 10 ^ 9 ≤ 10 ^ r.length := Nat.pow_le_pow_right (by decide) (by simp at h; omega)
        have : 1 * 10 ^ r.length ≤ (0 * 10 + (c.toNat - 48)) * 10 ^ r.length := Nat.mul_le_mul_right _ (by omega)
        have e9 : (10 : Nat) ^ 9 = 1000000000 := by decide
        omega
    · exact h
  · by_cases h5 : 1 < (decDigits n.toNat).length
    · exact .inr fun h6 => dec_head (dec_len1 h5) ((head_48 _).1 h6)
    · exact .inl h5
theorem pts_txC {c : Cls} (h : rightB c = true) : pts 32 (txC c) = [c.nm.data.toList, itoa c.se, itoa c.we, itoa c.ro, itoa c.dr] := by
  obtain ⟨hn, _⟩ := of_rightB h
  have e : txC c = c.nm.data.toList ++ 32 :: (itoa c.se ++ 32 :: (itoa c.we ++ 32 :: (itoa c.ro ++ 32 :: itoa c.dr))) := by simp [txC]
  rw [e, pts_at (name_no (by decide) hn), pts_at (itoa_no (by decide) _), pts_at (itoa_no (by decide) _), pts_at (itoa_no (by decide) _), pts_no (itoa_no (by decide) _)]
theorem txC_no {c : Cls} (h : rightB c = true) : (10 : UInt8) ∉ txC c := by
  obtain ⟨hn, _⟩ := of_rightB h
  have h0 := name_no (c := 10) (by decide) hn
  have h1 := itoa_no (c := 10) (by decide) c.se
  have h2 := itoa_no (c := 10) (by decide) c.we
  have h3 := itoa_no (c := 10) (by decide) c.ro
  have h4 := itoa_no (c := 10) (by decide) c.dr
  simp [txC, h0, h1, h2, h3, h4]
theorem cl_txC {c : Cls} (h : rightB c = true) : clB (txC c) = true ∧ clC (txC c) = c := by
  obtain ⟨hn, h1, h2, h3, h4, h5, h6, h7, h8⟩ := of_rightB h
  obtain ⟨a1, b1⟩ := rn_dec h1 (by omega)
  obtain ⟨a2, b2⟩ := rn_dec h3 (by omega)
  obtain ⟨a3, b3⟩ := rn_dec h5 (by omega)
  obtain ⟨a4, b4⟩ := rn_dec h7 (by omega)
  unfold clB clC
  rw [pts_txC h]
  refine ⟨by simp [cnvB, hn, a1, a2, a3, a4], ?_⟩
  simp only [cnvC, b1, b2, b3, b4]
/-- a list is read from its text -/
theorem prs_txL : ∀ (l acc : List Cls) (i : Nat), (∀ c ∈ l, rightB c = true) → prs (pts 10 (txL l)) i acc = (doneL (acc ++ l), 0, doneE (acc ++ l))
  | [], acc, i, _ => by simp [txL, pts, prs]
  | c :: r, acc, i, h => by
    have hc := h c (List.mem_cons_self ..)
    have ih := prs_txL r (acc ++ [c]) (i + 1) (fun x hx => h x (List.mem_cons_of_mem _ hx))
    rw [txL, pts_at (txC_no hc)]
    cases hp : pts 10 (txL r) with
    | nil => exact absurd hp (pts_ne 10 _)
    | cons q t =>
      rw [hp] at ih
      rw [prs, (cl_txC hc).1, if_pos rfl, (cl_txC hc).2, ih, List.append_assoc]
      rfl
theorem valid_right {l : List Cls} (h : validB l = true) : ∀ c ∈ l, rightB c = true := by
  intro c hc
  obtain ⟨i, hi, rfl⟩ := List.mem_iff_getElem.1 hc
  exact ((of_validB h).2.2 i hi).1
theorem read_text {l : List Cls} (h : validB l = true) : prs (pts 10 (txL l)) 0 [] = (l, 0, 0) := by
  rw [prs_txL l [] 0 (valid_right h), List.nil_append, doneL, doneE, if_pos h, if_pos h]
/-- what is read has the text -/
theorem num_back {l : List UInt8} (h : rnB l = true) : itoa (valL 0 l : Nat) = l := by
  obtain ⟨h1, h2, h3, h4⟩ := rn_facts h
  rw [itoa_nat, dec_valL l h1 h2 h4]
theorem cl_back {p : List UInt8} (h : clB p = true) : txC (clC p) = p := by
  unfold clB at h
  unfold clC
  have hj := jn_pts 32 p
  generalize pts 32 p = ws at *
  match ws, h with
  | [a, b, c, d, e], h =>
    simp only [cnvB, Bool.and_eq_true] at h
    obtain ⟨⟨⟨⟨_, h1⟩, h2⟩, h3⟩, h4⟩ := h
    rw [← hj]
    simp only [cnvC, txC, num_back h1, num_back h2, num_back h3, num_back h4, jn]
    simp
theorem prs_back : ∀ (ps : List (List UInt8)) (i : Nat) (acc x : List Cls), ps ≠ [] → prs ps i acc = (x, 0, 0) → txL x = txL acc ++ jn 10 ps ∧ validB x = true
  | [], _, _, _, h, _ => absurd rfl h
  | [p], i, acc, x, _, h => by
    rw [prs] at h
    by_cases hp : p = []
    · rw [if_pos hp] at h
      unfold doneL doneE at h
      by_cases hv : validB acc = true
      · rw [if_pos hv, if_pos hv] at h
        injection h with h _
        subst h hp
        exact ⟨by simp [jn], hv⟩
      · rw [if_neg hv, if_neg hv] at h
        injection h with _ h
        injection h with _ h
        exact absurd h (by decide)
    · rw [if_neg hp] at h
      injection h with _ h
      injection h with _ h
      exact absurd h (by decide)
  | p :: q :: r, i, acc, x, _, h => by
    rw [prs] at h
    by_cases hc : clB p = true
    · rw [if_pos hc] at h
      obtain ⟨h1, h2⟩ := prs_back (q :: r) (i + 1) (acc ++ [clC p]) x (by simp) h
      refine ⟨?_, h2⟩
      rw [h1, txL_append, jn]
      simp [txL, cl_back hc]
    · rw [if_neg hc] at h
      injection h with _ h
      injection h with _ h
      exact absurd h (by decide)
theorem text_read {s : List UInt8} {x : List Cls} (h : prs (pts 10 s) 0 [] = (x, 0, 0)) : txL x = s ∧ validB x = true := by
  obtain ⟨h1, h2⟩ := prs_back _ _ _ _ (pts_ne 10 s) h
  exact ⟨by rw [h1, jn_pts]; rfl, h2⟩
/-- no error, then no line; an error, then nothing is read -/
theorem prs_err : ∀ (ps : List (List UInt8)) (i : Nat) (acc : List Cls), ((prs ps i acc).2.2 = 0 → (prs ps i acc).2.1 = 0) ∧ ((prs ps i acc).2.2 ≠ 0 → (prs ps i acc).1 = []) ∧ 0 ≤ (prs ps i acc).2.1 ∧ (prs ps i acc).2.1 ≤ i + ps.length ∧ 0 ≤ (prs ps i acc).2.2 ∧ (prs ps i acc).2.2 ≤ 7
  | [], i, acc => by
    rw [prs]
    unfold doneL doneE
    split <;> simp <;> omega
  | [p], i, acc => by
    rw [prs]
    unfold doneL doneE
    split
    · split <;> simp <;> omega
    · simp; omega
  | p :: q :: r, i, acc => by
    have ih := prs_err (q :: r) (i + 1) (acc ++ [clC p])
    rw [prs]
    split
    · refine ⟨ih.1, ih.2.1, ih.2.2.1, ?_, ih.2.2.2.2⟩
      have := ih.2.2.2.1
      simp at this ⊢
      omega
    · simp; omega
end Go.Proofs.YtaaadejamjbcbaaDoor
