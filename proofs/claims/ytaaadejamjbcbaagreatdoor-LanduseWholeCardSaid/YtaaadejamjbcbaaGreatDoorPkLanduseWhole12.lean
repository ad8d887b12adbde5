/- Parts of one proof, joined: Parts of a text between bytes of a kind: what strings.Split returns at a separator of one byte, and what the references' loops gather; plain facts. Decimal integers without sign of at most nine digits (chapter 15): what the program and the reference read; plain facts. Texts by lines, and decimal numbers of at most nine digits in them; plain facts. Words of texts: slices of strings that read as lists; strings.Split at one byte, strings.CutSuffix at a line's end: what each returns; nothing that was there is turned. A range over a function whose iterator keeps its state in a box that it holds: the box is turned between two rounds; the rounds are told which elements have come. strings.Lines: the iterator hands on the lines of a string, in order. Lists of classes as texts: what the program and the reference read, and write; that a list is read from its text, and what is read has the text; plain facts. -/
import Derived.Test.YtaaadejamjbcbaaGreatDoorPkLanduseWhole5
import Derived.Lib.Split
import Derived.Lib.CountLaws
import Derived.Test.YtaaadejamjbcbaaGreatDoorShelf4
import Derived.Test.YtaaadejamjbcbaaGreatDoorPkLanduseWhole2
import Derived.RangeFuncNested
import Derived.RangeFuncBound
import Derived.RangeFuncCalls
import Derived.RangeFuncLeaves
import Derived.RangeFuncBox
import Derived.RangeFuncWrites
import Derived.Shelf.Abstract
import Derived.WalkKit
import Derived.OwnWalkIn
import Derived.TacticsInMore
import Derived.LoopNIn
import Derived.LoopIn
import Derived.Test.YtaaadejamjbcbaaGreatDoorPkLanduseWhole1
import Derived.Test.YtaaadejamjbcbaaGreatDoorPkLanduseWhole8
namespace Go.Proofs.YtaaadejamjbcbaaGreatDoor
open Go.Lib

/-- the parts of a text between bytes c -/
def pts (c : UInt8) : List UInt8 → List (List UInt8)
  | [] => [[]]
  | b :: r => if b = c then [] :: pts c r else match pts c r with | [] => [[b]] | h :: t => (b :: h) :: t
theorem pts_ne (c : UInt8) : ∀ l, pts c l ≠ []
  | [] => by simp [pts]
  | b :: r => by
    rw [pts]
    split
    · simp
    · split <;> simp
theorem pts_no {c : UInt8} : ∀ {l : List UInt8}, c ∉ l → pts c l = [l]
  | [], _ => rfl
  | b :: r, h => by
    have h1 : ¬ b = c := fun e => h (e ▸ List.mem_cons_self ..)
    rw [pts, if_neg h1, pts_no (fun h' => h (List.mem_cons_of_mem _ h'))]
theorem pts_at {c : UInt8} : ∀ {a r : List UInt8}, c ∉ a → pts c (a ++ c :: r) = a :: pts c r
  | [], r, _ => by simp [pts]
  | b :: a, r, h => by
    have h1 : ¬ b = c := fun e => h (e ▸ List.mem_cons_self ..)
    rw [List.cons_append, pts, if_neg h1, pts_at (fun h' => h (List.mem_cons_of_mem _ h'))]
theorem split_at_first {c : UInt8} : ∀ {l : List UInt8}, c ∈ l → ∃ a r, l = a ++ c :: r ∧ c ∉ a
  | [], h => by simp at h
  | b :: l, h => by
    by_cases e : b = c
    · exact ⟨[], l, by rw [e]; rfl, by simp⟩
    · have h2 : c ∈ l := by
        rcases List.mem_cons.1 h with h | h
        · exact absurd h.symm e
        · exact h
      obtain ⟨a, r, rfl, ha⟩ := split_at_first h2
      exact ⟨b :: a, r, rfl, by simp [ha]; exact fun e' => e e'.symm⟩
theorem split_pts (c : UInt8) : ∀ (n : Nat) (l : List UInt8), l.length ≤ n → Lib.split l [c] = pts c l := by
  intro n
  induction n with
  | zero =>
    intro l h
    have : l = [] := List.eq_nil_of_length_eq_zero (by omega)
    subst this
    unfold Lib.split
    rw [count_miss (index_no (by simp))]
    rfl
  | succ n ih =>
    intro l h
    by_cases hc : c ∈ l
    · obtain ⟨a, r, rfl, ha⟩ := split_at_first hc
      have hi : index (a ++ c :: r) [c] = (a.length : Int) := index_at (t := []) (r := r) ha
      have hd : (a ++ c :: r).drop (a.length + 1) = r := by simp [List.drop_append]
      unfold Lib.split
      have hcount := count_hit (s := a ++ c :: r) (sub := [c]) (i := a.length) (by simp) hi
      rw [show a.length + [c].length = a.length + 1 from rfl, hd] at hcount
      rw [hcount, Nat.add_comm, splitK, if_neg (by rw [hi]; simp), hi]
      rw [pts_at ha]
      have e1 : (a ++ c :: r).take ((a.length : Int).toNat + 0) = a := by simp
      have e2 : (a ++ c :: r).drop ((a.length : Int).toNat + [c].length) = r := by
        show (a ++ c :: r).drop (a.length + 1) = r
        exact hd
      rw [e1, e2]
      have := ih r (by simp at h; omega)
      unfold Lib.split at this
      rw [this]
    · rw [pts_no hc]
      unfold Lib.split
      rw [count_miss (index_no hc)]
      rfl
end Go.Proofs.YtaaadejamjbcbaaGreatDoor

namespace Go.Proofs.YtaaadejamjbcbaaGreatDoor
open Go Go.Lib

/-- the program's number -/
def nuB (l : List UInt8) : Bool := atB l && decide (l.length ≤ 9) && decide (itoa (atV l) = l) && decide (0 ≤ atV l)
/-- the reference's Number -/
def rnB (l : List UInt8) : Bool := decide (1 ≤ l.length) && decide (l.length ≤ 9) && !(decide (1 < l.length) && decide (l.head? = some 48)) && l.all fun c => decide (48 ≤ c.toNat ∧ c.toNat ≤ 57)
theorem all_dg {l : List UInt8} : (l.all fun c => decide (48 ≤ c.toNat ∧ c.toNat ≤ 57)) = true ↔ ∀ c ∈ l, isDg c := by
  simp only [List.all_eq_true, decide_eq_true_eq]
  exact Iff.rfl
theorem head_48 (l : List UInt8) : l.head? = some 48 ↔ l.head?.map UInt8.toNat = some 48 := by
  cases l with
  | nil => simp
  | cons c r =>
    simp only [List.head?_cons, Option.map_some, Option.some.injEq]
    exact ⟨fun h => by rw [h]; rfl, fun h => UInt8.toNat_inj.1 (by rw [h]; rfl)⟩
theorem rn_facts {l : List UInt8} (h : rnB l = true) : (∀ c ∈ l, isDg c) ∧ l ≠ [] ∧ l.length ≤ 9 ∧ (1 < l.length → l.head?.map UInt8.toNat ≠ some 48) := by
  unfold rnB at h
  simp only [Bool.and_eq_true, decide_eq_true_eq, Bool.not_eq_true', Bool.and_eq_false_iff, decide_eq_false_iff_not] at h
  obtain ⟨⟨⟨h1, h2⟩, h3⟩, h4⟩ := h
  refine ⟨all_dg.1 h4, fun e => by rw [e] at h1; simp at h1, h2, fun h5 e => ?_⟩
  rcases h3 with h3 | h3
  · exact h3 h5
  · exact h3 ((head_48 l).2 e)
theorem rn_val {l : List UInt8} (h : rnB l = true) : valL 0 l < 1000000000 := by
  obtain ⟨h1, _, h3, _⟩ := rn_facts h
  have h4 := valL_lt l h1 0
  have h5 : 10 ^ l.length ≤ 10 ^ 9 := Nat.pow_le_pow_right (by decide) h3
  have : (10 : Nat) ^ 9 = 1000000000 := by decide
  omega
theorem num_same (l : List UInt8) : nuB l = rnB l ∧ (rnB l = true → atV l = (valL 0 l : Nat)) := by
  have back : rnB l = true → nuB l = true ∧ atV l = (valL 0 l : Nat) := fun h => by
    obtain ⟨h1, h2, h3, h4⟩ := rn_facts h
    have hv := rn_val h
    obtain ⟨a1, a2⟩ := at_ok (atoi_digits l h1 h2 (by omega))
    refine ⟨?_, a1⟩
    unfold nuB
    rw [a2, a1, itoa_nat, dec_valL l h1 h2 h4]
    simp [h3]
  refine ⟨Bool.eq_iff_iff.2 ⟨fun h => ?_, fun h => (back h).1⟩, fun h => (back h).2⟩
  unfold nuB at h
  simp only [Bool.and_eq_true, decide_eq_true_eq] at h
  obtain ⟨⟨⟨_, h2⟩, h3⟩, h4⟩ := h
  have e : l = decDigits (atV l).toNat := by rw [← itoa_pos h4]; exact h3.symm
  have hd : ∀ c ∈ l, isDg c := by rw [e]; exact dec_dg _
  have hn : l ≠ [] := by rw [e]; exact dec_ne _
  have hz : 1 < l.length → l.head?.map UInt8.toNat ≠ some 48 := fun h => by
    rw [e] at h ⊢
    exact dec_head (dec_len1 h)
  unfold rnB
  simp only [Bool.and_eq_true, decide_eq_true_eq, Bool.not_eq_true', Bool.and_eq_false_iff, decide_eq_false_iff_not]
  refine ⟨⟨⟨List.length_pos_iff.2 hn, h2⟩, ?_⟩, all_dg.2 hd⟩
  by_cases h5 : 1 < l.length
  · exact .inr fun h6 => hz h5 ((head_48 l).1 h6)
  · exact .inl h5
end Go.Proofs.YtaaadejamjbcbaaGreatDoor

namespace Go.Proofs.YtaaadejamjbcbaaGreatDoor
open Go Go.Lib

/-- parts joined by bytes c -/
def jn (c : UInt8) : List (List UInt8) → List UInt8
  | [] => []
  | [p] => p
  | p :: q :: r => p ++ c :: jn c (q :: r)
theorem jn_pts (c : UInt8) : ∀ l, jn c (pts c l) = l
  | [] => rfl
  | b :: r => by
    have ih := jn_pts c r
    rw [pts]
    by_cases h : b = c
    · subst h
      rw [if_pos rfl]
      cases hp : pts b r with
      | nil => exact absurd hp (pts_ne b r)
      | cons p t => rw [hp] at ih; rw [jn, ih]; rfl
    · rw [if_neg h]
      cases hp : pts c r with
      | nil => exact absurd hp (pts_ne c r)
      | cons p t =>
        rw [hp] at ih
        cases t with
        | nil => simp only [jn] at ih ⊢; rw [ih]
        | cons q t => simp only [jn] at ih ⊢; rw [← ih]; rfl
theorem pts_mem {c : UInt8} : ∀ {l : List UInt8}, ∀ p ∈ pts c l, c ∉ p
  | [], p, h => by simp [pts] at h; simp [h]
  | b :: r, p, h => by
    have ih := fun p h => pts_mem (c := c) (l := r) p h
    rw [pts] at h
    by_cases hb : b = c
    · rw [if_pos hb] at h
      rcases List.mem_cons.1 h with rfl | h
      · simp
      · exact ih p h
    · rw [if_neg hb] at h
      cases hp : pts c r with
      | nil => exact absurd hp (pts_ne c r)
      | cons q t =>
        rw [hp] at h ih
        rcases List.mem_cons.1 h with rfl | h
        · intro e
          rcases List.mem_cons.1 e with e | e
          · exact hb e.symm
          · exact ih q (List.mem_cons_self ..) e
        · exact ih p (List.mem_cons_of_mem _ h)
/-- a text's lines, each with its end -/
def lnsOf : List (List UInt8) → List (List UInt8)
  | [] => []
  | [p] => if p = [] then [] else [p]
  | p :: q :: r => (p ++ [10]) :: lnsOf (q :: r)
def lns (l : List UInt8) : List (List UInt8) := lnsOf (pts 10 l)
theorem lns_nil : lns [] = [] := rfl
theorem lns_one {a : List UInt8} (h : (10 : UInt8) ∉ a) (h1 : a ≠ []) : lns a = [a] := by
  unfold lns; rw [pts_no h, lnsOf, if_neg h1]
theorem lns_at {a r : List UInt8} (h : (10 : UInt8) ∉ a) : lns (a ++ 10 :: r) = (a ++ [10]) :: lns r := by
  unfold lns
  rw [pts_at h]
  cases hp : pts 10 r with
  | nil => exact absurd hp (pts_ne 10 r)
  | cons p t => rw [lnsOf]
theorem lnsOf_len : ∀ (ps : List (List UInt8)) (n : Nat), (∀ p ∈ ps, p.length ≤ n) → ∀ x ∈ lnsOf ps, x.length ≤ n + 1
  | [], _, _, x, h => by simp [lnsOf] at h
  | [p], n, hp, x, h => by
    rw [lnsOf] at h
    split at h
    · simp at h
    · rw [List.mem_singleton.1 h]
      have := hp p (List.mem_cons_self ..)
      omega
  | p :: q :: r, n, hp, x, h => by
    rw [lnsOf] at h
    rcases List.mem_cons.1 h with rfl | h
    · have := hp p (List.mem_cons_self ..)
      simp; exact this
    · exact lnsOf_len (q :: r) n (fun y hy => hp y (List.mem_cons_of_mem _ hy)) x h
def endB (x : List UInt8) : Bool := hasSuffix x [10]
def bodyL (x : List UInt8) : List UInt8 := if endB x then x.take (x.length - 1) else x
theorem end_yes (p : List UInt8) : endB (p ++ [10]) = true ∧ bodyL (p ++ [10]) = p := by
  have h : endB (p ++ [10]) = true := by
    unfold endB hasSuffix
    rw [List.isSuffixOf_iff_suffix]
    exact ⟨p, rfl⟩
  refine ⟨h, ?_⟩
  unfold bodyL
  rw [if_pos h]
  simp
theorem end_no {p : List UInt8} (h : (10 : UInt8) ∉ p) : endB p = false := by
  rcases Bool.eq_false_or_eq_true (endB p) with h1 | h1
  · unfold endB hasSuffix at h1
    rw [List.isSuffixOf_iff_suffix] at h1
    obtain ⟨t, rfl⟩ := h1
    simp at h
  · exact h1
theorem dg_no {c : UInt8} (h : c.toNat < 48) {l : List UInt8} (hl : ∀ x ∈ l, isDg x) : c ∉ l := by
  intro e
  have := hl c e
  unfold isDg at this
  omega
theorem itoa_no {c : UInt8} (h : c.toNat < 45) (n : Int) : c ∉ itoa n := by
  intro e
  rcases itoa_mem e with h1 | h1
  · unfold isDg at h1; omega
  · omega
theorem rn_dec {n : Int} (h0 : 0 ≤ n) (h1 : n < 1000000000) : rnB (itoa n) = true ∧ (valL 0 (itoa n) : Int) = n := by
  rw [itoa_pos h0]
  refine ⟨?_, by rw [valL_dec]; omega⟩
  have hd := dec_dg n.toNat
  unfold rnB
  simp only [Bool.and_eq_true, decide_eq_true_eq, Bool.not_eq_true', Bool.and_eq_false_iff, decide_eq_false_iff_not]
  refine ⟨⟨⟨List.length_pos_iff.2 (dec_ne _), ?_⟩, ?_⟩, all_dg.2 hd⟩
  · rcases Nat.lt_or_ge 9 (decDigits n.toNat).length with h | h
    · exfalso
      have hz : 1 < (decDigits n.toNat).length → (decDigits n.toNat).head?.map UInt8.toNat ≠ some 48 := fun h => dec_head (dec_len1 h)
      have hv := valL_dec n.toNat
      -- ten digits without superfluous zeros are 10 ^ 9 at least
      have key : ∀ (l : List UInt8) (a : Nat), 1 ≤ a → (∀ c ∈ l, isDg c) → a * 10 ^ l.length ≤ valL a l := by
        intro l
        induction l with
        | nil => intro a _ _; simp [valL]
        | cons c r ih =>
          intro a ha hc
          have := ih (a * 10 + (c.toNat - 48)) (by omega) (fun x hx => hc x (List.mem_cons_of_mem _ hx))
          show a * 10 ^ (r.length + 1) ≤ valL (a * 10 + (c.toNat - 48)) r
          refine Nat.le_trans ?_ this
          rw [Nat.pow_succ, Nat.mul_comm (10 ^ r.length) 10, ← Nat.mul_assoc]
          exact Nat.mul_le_mul_right _ (by omega)
      cases hl : decDigits n.toNat with
      | nil => exact absurd hl (dec_ne _)
      | cons c r =>
        rw [hl] at h hz hv hd
        have h2 := hd c (List.mem_cons_self ..)
        unfold isDg at h2
        have h3 : c.toNat ≠ 48 := fun e => hz (by omega) (by simp [e])
        have := key r (0 * 10 + (c.toNat - 48)) (by omega) (fun x hx => hd x (List.mem_cons_of_mem _ hx))
        have hv' : valL (0 * 10 + (c.toNat - 48)) r = n.toNat := hv
        have h9 : 10 ^ 9 ≤ 10 ^ r.length := Nat.pow_le_pow_right (by decide) (by simp at h; omega)
        have : 1 * 10 ^ r.length ≤ (0 * 10 + (c.toNat - 48)) * 10 ^ r.length := Nat.mul_le_mul_right _ (by omega)
        have e9 : (10 : Nat) ^ 9 = 1000000000 := by decide
        omega
    · exact h
  · by_cases h5 : 1 < (decDigits n.toNat).length
    · exact .inr fun h6 => dec_head (dec_len1 h5) ((head_48 _).1 h6)
    · exact .inl h5
/-- what is read has the text -/
theorem num_back {l : List UInt8} (h : rnB l = true) : itoa (valL 0 l : Nat) = l := by
  obtain ⟨h1, h2, h3, h4⟩ := rn_facts h
  rw [itoa_nat, dec_valL l h1 h2 h4]
end Go.Proofs.YtaaadejamjbcbaaGreatDoor

namespace Go.Proofs.YtaaadejamjbcbaaGreatDoor
open Go Go.RowKit

/-- a slice of strings that reads as a list -/
def StrSl (w : World) (A : Option Addr) (l : List (List UInt8)) : Prop :=
  l.length ≤ 9223372036854775807 ∧ (0 < l.length → ∃ b off, A = some ⟨b, off, none⟩ ∧ b < w.heap.size ∧ ∀ i (h : i < l.length), w.cell? ⟨b, off + i, none⟩ = some (strV l[i]))
theorem StrSl.below {w w' : World} {A : Option Addr} {l : List (List UInt8)} (h : StrSl w A l) (hb : Below w.heap.size w w') : StrSl w' A l :=
  ⟨h.1, fun hl => by obtain ⟨b, off, e, hlt, hat⟩ := h.2 hl; exact ⟨b, off, e, Nat.lt_of_lt_of_le hlt hb.size, fun i hi => (hb.cell (p := ⟨b, off + i, none⟩) hlt).trans (hat i hi)⟩⟩
theorem StrSl.nil (w : World) (A : Option Addr) : StrSl w A [] := ⟨by simp, fun h => by simp at h⟩
theorem StrSl.of_blk {w : World} {g : Nat} {t : TypeId} {l : List (List UInt8)} (h : Blk w g t (l.map strV).toArray) (hl : l.length ≤ 9223372036854775807) : StrSl w (some ⟨g, 0, none⟩) l :=
  ⟨hl, fun _ => ⟨g, 0, rfl, h.lt, fun i hi => by rw [Nat.zero_add, h.cell]; simp [hi]⟩⟩
theorem StrSl.of_row {w : World} {base : Nat} {e : TypeId} {v : Value} {n : Nat} {l : List (List UInt8)} (h : w.ownsRow base e 1 v n (l.map strV)) (hb : l.length ≤ 9223372036854775807) : ∃ A c, v = .slice A l.length c ∧ StrSl w A l ∧ l.length ≤ c := by
  have hn : l.length = n := by have := h.1; simpa using this
  rcases h.2 with ⟨rfl, h0⟩ | ⟨g, cap, cur, rfl, hg, hcell, hnc, _, hsz, htake⟩
  · rw [h0] at hn
    have : l = [] := List.eq_nil_of_length_eq_zero hn
    subst this
    exact ⟨none, 0, rfl, StrSl.nil w none, by simp⟩
  · subst hn
    refine ⟨some ⟨g, 0, none⟩, cap, rfl, ⟨hb, fun _ => ⟨g, 0, rfl, (Array.getElem?_eq_some_iff.1 hcell).1, fun i hi => ?_⟩⟩, hnc⟩
    have hc := h.cells (g := g) rfl i (strV l[i]) (by simp [hi])
    have e : (⟨g, 0, none⟩ : Addr).add i = ⟨g, 0 + i, none⟩ := by unfold Addr.add; split <;> simp_all
    rw [e] at hc
    exact hc
theorem pts_length (c : UInt8) : ∀ l : List UInt8, (pts c l).length ≤ l.length + 1
  | [] => by simp [pts]
  | b :: r => by
    have := pts_length c r
    rw [pts]
    split
    · simp; omega
    · split
      · simp
      · rename_i h t e
        rw [e] at this
        simp at this ⊢
        omega
theorem pts_len {c : UInt8} : ∀ {l : List UInt8}, ∀ p ∈ pts c l, p.length ≤ l.length
  | [], p, h => by simp [pts] at h; simp [h]
  | b :: r, p, h => by
    have ih := fun p h => pts_len (c := c) (l := r) p h
    rw [pts] at h
    by_cases hb : b = c
    · rw [if_pos hb] at h
      rcases List.mem_cons.1 h with rfl | h
      · simp
      · have := ih p h; simp; omega
    · rw [if_neg hb] at h
      cases hp : pts c r with
      | nil => exact absurd hp (pts_ne c r)
      | cons q t =>
        rw [hp] at h ih
        rcases List.mem_cons.1 h with rfl | h
        · have := ih q (List.mem_cons_self ..); simp; omega
        · have := ih p (List.mem_cons_of_mem _ h); simp; omega
theorem lns_len {s : List UInt8} : ∀ x ∈ lns s, x.length ≤ s.length + 1 := fun x h => lnsOf_len (pts 10 s) s.length (fun p hp => pts_len p hp) x h
theorem lns_length (s : List UInt8) : (lns s).length ≤ s.length + 1 := by
  have key : ∀ ps : List (List UInt8), (lnsOf ps).length ≤ ps.length := by
    intro ps
    induction ps with
    | nil => simp [lnsOf]
    | cons p ps ih =>
      cases ps with
      | nil => rw [lnsOf]; split <;> simp
      | cons q r => rw [lnsOf]; simp at ih ⊢; exact ih
  exact Nat.le_trans (key _) (pts_length 10 s)
theorem body_len (x : List UInt8) : (bodyL x).length ≤ x.length := by unfold bodyL; split <;> simp
def SplPost (l : List (List UInt8)) (w : World) (e : Ending) (w' : World) : Prop := Below w.heap.size w w' ∧ ∃ A c, e = .returned (.slice A l.length c) ∧ StrSl w' A l ∧ l.length ≤ c
theorem split_any (l : List UInt8) (c : UInt8) (w : World) (hl : l.length < 4294967281) (ht : TxtW w) : Calls Tryz.prog 58 #[strV l, strV [c]] w (SplPost (pts c l) w) := by
  obtain ⟨m, hm⟩ := ht.2.1
  have hs : (⟨l.toArray⟩ : ByteArray).size = l.length := by simp [ByteArray.size]
  have hd : (⟨l.toArray⟩ : ByteArray).data.toList = l := by simp
  have e1 : (Lib.splitB ⟨[c].toArray⟩ 0 (Lib.countB ⟨l.toArray⟩ ⟨[c].toArray⟩) ⟨l.toArray⟩).map (·.data.toList) = pts c l := by
    rw [Lib.splitB_data]
    have := split_pts c l.length l (Nat.le_refl _)
    unfold Lib.split at this
    rw [← this]
  have e2 : (Lib.splitB ⟨[c].toArray⟩ 0 (Lib.countB ⟨l.toArray⟩ ⟨[c].toArray⟩) ⟨l.toArray⟩).map Value.string = (pts c l).map strV := by
    rw [← e1, List.map_map]
    exact List.map_congr_left fun x _ => (strV_data x).symm
  have e3 : Lib.countB ⟨l.toArray⟩ ⟨[c].toArray⟩ + 1 = (pts c l).length := by
    rw [← e1, List.length_map, Lib.splitB_all ⟨[c].toArray⟩ (by simp [ByteArray.size]) 0 _ _ rfl]
  refine (Tryz.strings_Split ⟨l.toArray⟩ ⟨[c].toArray⟩ m w (by rw [hs]; exact hl) hm (by simp [ByteArray.size])).mono fun e w' ⟨he, hw⟩ => ?_
  rw [e2] at hw
  rw [e3] at he
  subst hw
  exact ⟨(Below.refl _ _).alloc (Nat.le_refl _) _, _, _, he, StrSl.of_blk (Blk.new _ _ _) (by have := pts_length c l; omega), Nat.le_refl _⟩
theorem ba_take (l : List UInt8) (k : Nat) : (⟨l.toArray⟩ : ByteArray).extract 0 k = ⟨(l.take k).toArray⟩ := by
  apply ByteArray.ext
  rw [ByteArray.data_extract]
  apply Array.ext'
  simp
theorem ba_drop (l : List UInt8) (k : Nat) : (⟨l.toArray⟩ : ByteArray).extract k (⟨l.toArray⟩ : ByteArray).size = ⟨(l.drop k).toArray⟩ := by
  apply ByteArray.ext
  rw [ByteArray.data_extract]
  apply Array.ext'
  simp [ByteArray.size]
  rw [List.take_of_length_le (by simp)]
theorem end_len {x : List UInt8} (h : endB x = true) : 1 ≤ x.length := by
  unfold endB Lib.hasSuffix at h
  have := (List.isSuffixOf_iff_suffix.1 h).length_le
  simpa using this
set_option maxHeartbeats 400000 in
theorem scutSuf_any (l : List UInt8) (w : World) (hl : l.length ≤ 9223372036854775807) :
    Calls Tryz.prog 57 #[strV l, strV [10]] w fun e w' => e = .returned (.tuple #[strV (bodyL l), .bool (endB l)]) ∧ w = w' := by
  have hs : (⟨l.toArray⟩ : ByteArray).size = l.length := by simp [ByteArray.size]
  have S := hide (fun W => Tryz.stringslite_HasSuffix ⟨l.toArray⟩ ⟨#[10]⟩ W (by rw [hs]; exact hl))
  have eE : Lib.hasSuffix (⟨l.toArray⟩ : ByteArray).data.toList (⟨#[10]⟩ : ByteArray).data.toList = endB l := by simp [endB]
  rw [eE] at S
  rcases Bool.eq_false_or_eq_true (endB l) with h | h
  · have h1 := end_len h
    have eB : bodyL l = l.take (l.length - 1) := by unfold bodyL; rw [if_pos h]
    have EB := hide (And.intro eB (ba_take l (l.length - 1)))
    have i1 := IntWalk.i64_in ((l.length : Int) - 1) (by omega)
    have t1 : ((l.length : Int) - 1).toNat = l.length - 1 := by omega
    rw [h] at S
    rw [h]
    clear h eB eE hs
    go_enter Tryz.func57, Tryz.ntmps57
    go_wp2_with fail
    refine (S.out _).mono ?_
    rintro e w' ⟨rfl, rfl⟩
    go_wp2
    go_ret2
    exact ⟨by rw [EB.out.1]; show Ending.returned (.tuple #[.string _, _]) = _; rw [EB.out.2]; rfl, rfl⟩
  · have EB : Hid (bodyL l = l) := hide (by unfold bodyL; rw [if_neg (by rw [h]; simp)])
    rw [h] at S
    rw [h]
    clear h eE hs
    go_enter Tryz.func57, Tryz.ntmps57
    go_wp2_with fail
    refine (S.out _).mono ?_
    rintro e w' ⟨rfl, rfl⟩
    go_wp2
    go_ret2
    exact ⟨by rw [EB.out]; rfl, rfl⟩
set_option maxHeartbeats 400000 in
theorem cutSuf_any (l : List UInt8) (w : World) (hl : l.length ≤ 9223372036854775807) :
    Calls Tryz.prog 38 #[strV l, strV [10]] w fun e w' => e = .returned (.tuple #[strV (bodyL l), .bool (endB l)]) ∧ w = w' := by
  have S := hide (fun W => scutSuf_any l W hl)
  generalize bodyL l = b at *
  generalize endB l = t at *
  go_enter Tryz.func38, Tryz.ntmps38
  go_wp2_with fail
  refine (S.out _).mono ?_
  rintro e w' ⟨rfl, rfl⟩
  go_wp2
  go_ret2
  exact ⟨rfl, rfl⟩
end Go.Proofs.YtaaadejamjbcbaaGreatDoor

namespace Go.Proofs.YtaaadejamjbcbaaGreatDoor
open Go Go.RowKit

/-- what is said of a world stays where new blocks come up, and where the box Bs is turned -/
def Bears {β : Type} (Bs : Nat) (J : β → World → Prop) : Prop := ∀ s A B, J s A → A.grownBy B (some Bs) → J s B
/-- an iterator's value that hands on the elements of L, in order, and turns no block that was there but its box Bs, which the rounds leave alone -/
def GivesL {α : Type} (F : Fence) (n : Nat) (P : Program) (gf : Nat) (lb : Array Value) (encs : α → Array Value) (Bs : Nat) (L : List α) (w : World) : Prop :=
  ∀ (l : Nat) (J Jx : List α → World → Prop) (W : World), Below w.heap.size w W → Bears Bs J → Bears Bs Jx →
    (∀ pre x A, pre ++ [x] <+: L → J pre A → YieldAt F (n - 1) P l (encs x) A fun e B => (e = .returned (.bool true) ∧ J (pre ++ [x]) B ∧ B.heap[Bs]? = A.heap[Bs]?) ∨ (e = .returned (.bool false) ∧ Jx (pre ++ [x]) B)) →
    J [] W →
    CallsIn F n P gf (#[.func (.yield l) #[] #[]] ++ lb) W fun e W' => (∃ v, e = .returned v) ∧ (J L W' ∨ ∃ pre, pre <+: L ∧ Jx pre W')
/-- how a round may be left -/
def outL {α : Type} (B Bs : Nat) (I : List α → World → Prop) (Ix : Code → List α → World → Prop) (xs : List α) (W : World) : Exit → Act → World → Prop
  | .normal, _, W' => KeepsFrom B W W' ∧ W'.heap[Bs]? = W.heap[Bs]? ∧ I xs W'
  | .ret, _, W' => KeepsFrom B W W' ∧ Ix .ret xs W'
  | .exit id, _, W' => KeepsFrom B W W' ∧ Ix (.exit id) xs W'
  | .goto t, _, W' => KeepsFrom B W W' ∧ Ix (.goto t) xs W'
  | .panic _, _, _ => False
  | .outgrown, _, _ => False

variable {F : Fence} {n : Nat} {P : Program}
theorem rangeFunc_box {α : Type} {g : Operand} {ps : Array Tmp} {assign body : Code} {Q : Exit → Act → World → Prop} {a : Act} {w : World}
    (hro : F.round = none) (h1 : 1 ≤ n) {gf : Nat} {lb : Array Value} (hg : a.eval g = .func (.func gf) #[] lb) (hFg : F.fn gf) (eg : ∀ args w, (callFunc gf args).run P w = .ok (.enter gf args) w)
    {encs : α → Array Value} {Bs : Nat} {L : List α} (hseq : GivesL F (n - 1) P gf lb encs Bs L w) (hBs : Bs < w.heap.size) (hps : ∀ x, (encs x).size = ps.size)
    (I : List α → World → Prop) (Ix : Code → List α → World → Prop) (hI : OwnFrom w.heap.size I) (hIx : ∀ c, OwnFrom w.heap.size (Ix c)) (kI : Bears Bs I) (kIx : ∀ c, Bears Bs (Ix c)) (h0 : I [] w) (a₁ : α → Act)
    (hassign : ∀ (l : Nat) (x : α) (W : World) (K : Act → World → Prop), K (a₁ x) W → assign.wpIn (F.inRound l) (n - 1 - 1) P (Exit.then K (fun _ _ _ => False)) { tmps := (ps.zip (encs x)).foldl (fun t (p, v) => t.setIfInBounds p v) a.tmps, defers := [] } W)
    (hbody : ∀ (l : Nat) (pre : List α) (x : α) (W : World), pre ++ [x] <+: L → I pre W → body.wpIn (F.inRound l) (n - 1 - 1) P (outL w.heap.size Bs I Ix (pre ++ [x]) W) (a₁ x) W)
    (hdone : ∀ (D : Nat) (W : World), w.heap.size ≤ D → I L W → W.heap[D]? = some (.deferred (some [])) → Q .normal { a with defers := { target := .collected D, args := #[] } :: a.defers } W)
    (hstop : ∀ (D : Nat) (c : Code) (pre : List α) (W : World), w.heap.size ≤ D → pre <+: L → Ix c pre W → W.heap[D]? = some (.deferred (some [])) → c.wpIn F n P Q { a with defers := { target := .collected D, args := #[] } :: a.defers } W) :
    (Code.rangeFunc g ps assign body).wpIn F n P Q a w := by
  refine wpIn_rangeFunc fun fn hfn => ?_
  rw [hro]
  let mk : LoopState → Option Code → Loop := fun st pe => { state := st, pending := pe, fn, tmps := a.tmps, params := ps, assign, body, defers := w.heap.size }
  obtain ⟨W1, hW1⟩ : ∃ W1, (w.alloc (.deferred (some []))).alloc (.loop (mk .ready none)) = W1 := ⟨_, rfl⟩
  have new1 : W1.heap[w.heap.size + 1]? = some (.loop (mk .ready none)) := by
    have := World.alloc_heap_new (w.alloc (.deferred (some []))) (.loop (mk .ready none))
    rw [World.size_alloc] at this
    rw [← hW1]; exact this
  have new0 : W1.heap[w.heap.size]? = some (.deferred (some [])) := by
    rw [← hW1]; exact (Below.heap_alloc _ _ _ (by simp)).trans (World.alloc_heap_new w _)
  have hI1 : I [] W1 := by rw [← hW1]; exact hI.alloc _ (hI.alloc _ h0)
  have hb1 : Below w.heap.size w W1 := by
    rw [← hW1]; exact ((Below.refl _ w).alloc (Nat.le_refl _) _).alloc (by simp) _
  -- the two blocks of the loop's own are no box
  have off : ∀ {A B : World} {k : Nat} {o : Obj}, A.grownBy B (some Bs) → w.heap.size ≤ k → A.heap[k]? = some o → B.heap[k]? = some o := fun {A B k o} hg hk h =>
    (hg.block k (Array.getElem?_eq_some_iff.1 h).1 (fun e => by injection e with e; omega)).trans h
  refine ⟨w.heap.size + 1, [{ target := .collected w.heap.size, args := #[] }], W1, { target := .fn (.func gf) lb, args := #[.func (.yield (w.heap.size + 1)) #[] #[]] }, W1, gf,
    #[.func (.yield (w.heap.size + 1)) #[] #[]] ++ lb, W1, ?_, ?_, ?_, ?_, fun _ => h1, ?_⟩
  · rw [← hW1]; exact run_enterLoop_outer _ _ _ _ _
  · simp only [resolve, hg]
    simp [go_sem]
  · intro f' hf'; simp [Target.leads] at hf'; subst hf'; exact hFg
  · simp [invoke, go_sem, eg]
  · refine (hseq (w.heap.size + 1)
      (fun pre W => I pre W ∧ W.heap[w.heap.size + 1]? = some (.loop (mk .ready none)) ∧ W.heap[w.heap.size]? = some (.deferred (some [])))
      (fun pre W => ∃ c, Ix c pre W ∧ W.heap[w.heap.size + 1]? = some (.loop (mk .done (some c))) ∧ W.heap[w.heap.size]? = some (.deferred (some [])))
      W1 hb1
      (fun s A B hs hg' => ⟨kI s A B hs.1 hg', off hg' (by omega) hs.2.1, off hg' (by omega) hs.2.2⟩)
      (fun s A B hs hg' => by
        obtain ⟨c, hc, hl, hk⟩ := hs
        exact ⟨c, kIx c s A B hc hg', off hg' (by omega) hl, off hg' (by omega) hk⟩)
      ?_ ⟨hI1, new1, new0⟩).mono ?_
    · rintro pre x W hpre ⟨hi, hl, hk⟩
      have hlt : w.heap.size + 1 < W.heap.size := (Array.getElem?_eq_some_iff.1 hl).1
      have hy := run_yield (P := P) (args := encs x) hl (hps x)
      refine ⟨fn, _, assign, body, hy, roundIn_of_wpIn hfn (hassign _ x W _ ⟨_, run_beginRound hl rfl, ?_⟩)⟩
      have hl2 : (W.putObj (w.heap.size + 1) (.loop { mk .ready none with state := .busy })).heap[w.heap.size + 1]? = some (.loop { mk .ready none with state := .busy }) := World.putObj_heap_same hlt
      have hk2 : (W.putObj (w.heap.size + 1) (.loop { mk .ready none with state := .busy })).heap[w.heap.size]? = some (.deferred (some [])) := (World.putObj_heap_other (by omega)).trans hk
      have hB2 : (W.putObj (w.heap.size + 1) (.loop { mk .ready none with state := .busy })).heap[Bs]? = W.heap[Bs]? := World.putObj_heap_other (by omega)
      refine wpIn_mono (hbody _ pre x _ hpre (hI.putObj _ hi (by omega) hl rfl)) ?_
      have fin : ∀ (jump : Option Code) (W3 : World), KeepsFrom w.heap.size (W.putObj (w.heap.size + 1) (.loop { mk .ready none with state := .busy })) W3 →
          (Instr.endRound (w.heap.size + 1) jump).run P W3 = .ok (.bool jump.isNone) (W3.putObj (w.heap.size + 1) (.loop (mk (if jump.isNone then .ready else .done) jump))) ∧
          W3.heap[w.heap.size + 1]? = some (.loop { mk .ready none with state := .busy }) ∧
          (W3.putObj (w.heap.size + 1) (.loop (mk (if jump.isNone then .ready else .done) jump))).heap[w.heap.size + 1]? = some (.loop (mk (if jump.isNone then .ready else .done) jump)) ∧
          (W3.putObj (w.heap.size + 1) (.loop (mk (if jump.isNone then .ready else .done) jump))).heap[w.heap.size]? = some (.deferred (some [])) := fun jump W3 hk3 => by
        have hl3 := hk3.same _ _ (by omega) hl2 rfl
        exact ⟨run_endRound (P := P) jump hl3, hl3, World.putObj_heap_same (Array.getElem?_eq_some_iff.1 hl3).1, (World.putObj_heap_other (by omega)).trans (hk3.same _ _ (Nat.le_refl _) hk2 rfl)⟩
      rintro e a3 W3 hp
      cases e with
      | normal =>
        obtain ⟨hk3, hkp3, hi3⟩ := hp
        obtain ⟨hr, hl3, hl4, hk4⟩ := fin none W3 hk3
        exact ⟨_, _, hr, .inl ⟨rfl, ⟨hI.putObj _ hi3 (by omega) hl3 rfl, hl4, hk4⟩, ((World.putObj_heap_other (by omega)).trans hkp3).trans hB2⟩⟩
      | ret =>
        obtain ⟨hk3, hi3⟩ := hp
        obtain ⟨hr, hl3, hl4, hk4⟩ := fin (some .ret) W3 hk3
        exact ⟨_, _, hr, .inr ⟨rfl, .ret, (hIx _).putObj _ hi3 (by omega) hl3 rfl, hl4, hk4⟩⟩
      | exit id =>
        obtain ⟨hk3, hi3⟩ := hp
        obtain ⟨hr, hl3, hl4, hk4⟩ := fin (some (.exit id)) W3 hk3
        exact ⟨_, _, hr, .inr ⟨rfl, .exit id, (hIx _).putObj _ hi3 (by omega) hl3 rfl, hl4, hk4⟩⟩
      | goto t =>
        obtain ⟨hk3, hi3⟩ := hp
        obtain ⟨hr, hl3, hl4, hk4⟩ := fin (some (.goto t)) W3 hk3
        exact ⟨_, _, hr, .inr ⟨rfl, .goto t, (hIx _).putObj _ hi3 (by omega) hl3 rfl, hl4, hk4⟩⟩
      | panic ch => exact hp.elim
      | outgrown => exact hp.elim
    · rintro e W2 ⟨⟨v, rfl⟩, (⟨hi, hl, hk⟩ | ⟨pre, hSp, c, hi, hl, hk⟩)⟩
      · exact ⟨none, _, run_endLoop (P := P) hl (by simp [mk]), hdone _ _ (Nat.le_refl _) (hI.putObj _ hi (by omega) hl rfl) ((World.putObj_heap_other (by omega)).trans hk)⟩
      · exact ⟨some c, _, run_endLoop (P := P) hl (by simp [mk]), hstop _ c pre _ (Nat.le_refl _) hSp ((hIx c).putObj _ hi (by omega) hl rfl) ((World.putObj_heap_other (by omega)).trans hk)⟩
end Go.Proofs.YtaaadejamjbcbaaGreatDoor

namespace Go.Proofs.YtaaadejamjbcbaaGreatDoor
open Go Go.RowKit Go.Shelf

attribute [local go_sem] Oper.semAt_some

theorem idx_no {c : UInt8} : ∀ {l : List UInt8}, c ∉ l → Lib.indexByte l c = -1
  | [], _ => rfl
  | b :: l, h => by
    have h1 : ¬ b = c := fun e => h (e ▸ List.mem_cons_self ..)
    have h2 := idx_no (fun h' => h (List.mem_cons_of_mem _ h') : c ∉ l)
    simp [Lib.indexByte, h1, h2]
theorem idx_at {c : UInt8} {r : List UInt8} : ∀ {a : List UInt8}, c ∉ a → Lib.indexByte (a ++ c :: r) c = (a.length : Int)
  | [], _ => by simp [Lib.indexByte]
  | b :: l, h => by
    have h1 : ¬ b = c := fun e => h (e ▸ List.mem_cons_self ..)
    have h2 := idx_at (r := r) (fun h' => h (List.mem_cons_of_mem _ h') : c ∉ l)
    have h3 : ¬ (l.length : Int) = -1 := by omega
    simp [Lib.indexByte, h1, h2, h3]
theorem grown_set (w : World) (b i : Nat) (u : Value) : w.grownBy (w.setCell ⟨b, i, none⟩ u) (some b) := by
  refine ⟨rfl, rfl, rfl, by simp [World.setCell], fun k _ hne => ?_⟩
  exact Below.heap_setCell w ⟨b, i, none⟩ u k (fun e => hne (by rw [e]))
theorem grown_drewL (w : World) (row : Option Nat) : w.grownBy w.drew row := ⟨rfl, rfl, rfl, Nat.le_refl _, fun _ _ _ => rfl⟩
/-- how much of the string is left in the box -/
def leftS (Bs : Nat) (w : World) : Nat := match w.cell? ⟨Bs, 0, none⟩ with | some (.string s) => s.size | _ => 0
theorem leftS_of {Bs : Nat} {w : World} {t : TypeId} {l : List UInt8} (h : Blk w Bs t #[strV l]) : leftS Bs w = l.length := by
  unfold leftS
  rw [h.cell]
  simp [ByteArray.size]
set_option maxRecDepth 100000 in
set_option maxHeartbeats 4000000 in
theorem lines1_in (n : Nat) (hn : 1 ≤ n) (l Bs : Nat) (s : List UInt8) (hs : s.length ≤ 9223372036854775807) (J Jx : List (List UInt8) → World → Prop) (kJ : Bears Bs J)
    (hY : ∀ pre x A, pre ++ [x] <+: lns s → J pre A → YieldAt Fence.wide (n - 1) Tryz.prog l #[strV x] A fun e B => (e = .returned (.bool true) ∧ J (pre ++ [x]) B ∧ B.heap[Bs]? = A.heap[Bs]?) ∨ (e = .returned (.bool false) ∧ Jx (pre ++ [x]) B))
    (W : World) (hBs : Blk W Bs 9 #[strV s]) (h0 : J [] W) :
    CallsIn Fence.wide n Tryz.prog 55 #[.func (.yield l) #[] #[], .pointer (some ⟨Bs, 0, none⟩)] W fun e W' => (∃ v, e = .returned v) ∧ (J (lns s) W' ∨ ∃ pre, pre <+: lns s ∧ Jx pre W') := by
  refine callsIn_of_wp Tryz.func55 rfl trivial ?_ rfl
  simp only [Tryz.ntmps55, List.size_toArray, List.length_cons, List.length_nil, Nat.reduceAdd, Nat.reduceSub, Array.replicate_succ, Array.replicate_zero, List.push_toArray, List.append_toArray, List.nil_append, List.cons_append]
  gi_wp2
  gi_loopw [] (fun wr => ∃ (pre : List (List UInt8)) (rest : List UInt8), Hid (Blk wr Bs 9 #[strV rest] ∧ J pre wr ∧ lns s = pre ++ lns rest ∧ rest.length ≤ s.length)) (fun wr => leftS Bs wr)
  case atStart => exact ⟨[], s, hide ⟨hBs, h0, rfl, Nat.le_refl _⟩⟩
  case round =>
    obtain ⟨pre, rest, Y⟩ := hrel
    have c0 := Y.out.1.cell 0
    have f0 := Y.out.1.frozen 0
    have hl := Y.out.2.2.2
    have HN := hide Y.out.2.2.1
    have IB := hide (fun W => Tryz.strings_IndexByte ⟨rest.toArray⟩ 10 W)
    rcases Nat.eq_zero_or_pos rest.length with hz | hz
    · have e : rest = [] := List.eq_nil_of_length_eq_zero hz
      subst e
      have E : lns s = pre := HN.out.trans (List.append_nil _)
      have YJ := Y.out.2.1
      gi_wp2
      go_end0
      exact ⟨⟨_, rfl⟩, .inl YJ⟩
    · by_cases hc : (10 : UInt8) ∈ rest
      · obtain ⟨a, r, rfl, ha⟩ := split_at_first hc
        have e1 : Lib.indexByte (⟨(a ++ 10 :: r).toArray⟩ : ByteArray).data.toList (10 : Int).toNat.toUInt8 = (a.length : Int) := by
          have := idx_at (r := r) ha
          simpa using this
        rw [e1] at IB
        have EL := lns_at (r := r) ha
        have PRE : pre ++ [a ++ [10]] <+: lns s := by rw [Y.out.2.2.1, EL]; exact ⟨lns r, by simp⟩
        have t1 := ba_take (a ++ 10 :: r) (a.length + 1)
        have t2 := ba_drop (a ++ 10 :: r) (a.length + 1)
        have ts : (⟨(a ++ 10 :: r).toArray⟩ : ByteArray).size = a.length + (r.length + 1) := by simp [ByteArray.size]
        rw [show a ++ 10 :: r = (a ++ [10]) ++ r by simp, List.take_left' (by simp)] at t1
        rw [show a ++ 10 :: r = (a ++ [10]) ++ r by simp, List.drop_left' (by simp)] at t2
        rw [show (a ++ [10]) ++ r = a ++ 10 :: r by simp] at t1 t2
        rw [ts] at t2
        have hb1 : a.length + (r.length + 1) ≤ 9223372036854775807 := by simp at hl; omega
        have i1 := IntWalk.i64_in ((a.length : Int) + 1) (by omega)
        have i2 : ((a.length : Int) + 1).toNat = a.length + 1 := by omega
        have i3 : ¬ (a.length : Int) < 0 := by omega
        have YB : Hid (Blk (wr.setCell ⟨Bs, 0, none⟩ (strV r)).drew Bs 9 #[strV r]) := hide (Y.out.1.set_ 0 (strV r)).drew
        have YJ : Hid (J pre (wr.setCell ⟨Bs, 0, none⟩ (strV r)).drew) := hide (kJ _ _ _ (kJ _ _ _ Y.out.2.1 (grown_set wr Bs 0 (strV r))) (grown_drewL _ (some Bs)))
        have EN : Hid (lns s = (pre ++ [a ++ [10]]) ++ lns r) := hide (by rw [Y.out.2.2.1, EL]; simp)
        have HL : Hid (r.length ≤ s.length) := hide (by simp at hl; omega)
        have ME : Hid (leftS Bs wr = a.length + (r.length + 1)) := hide (by rw [leftS_of Y.out.1]; simp)
        have hA : (a ++ 10 :: r).length = a.length + (r.length + 1) := by simp
        clear hl hc EL Y e1 ts hBs h0
        generalize a ++ 10 :: r = A at *
        gi_wp2_with fail
        refine ⟨trivial, (callsIn_wide.2 (IB.out _)).mono ?_⟩
        rintro e w' ⟨rfl, rfl⟩
        gi_wp2
        gi_region
        obtain ⟨fn, tmps, assign, body, hy, hR⟩ := hY pre (a ++ [10]) _ PRE YJ.out
        generalize (World.setCell _ _ _).drew = W4 at *
        gi_wp2
        refine hR.mono ?_
        rintro e W3 (⟨rfl, hJ3, hk3⟩ | ⟨rfl, hJx3⟩)
        · have Z : Hid (Blk W3 Bs 9 #[strV r] ∧ J (pre ++ [a ++ [10]]) W3 ∧ lns s = (pre ++ [a ++ [10]]) ++ lns r ∧ r.length ≤ s.length) := hide ⟨hk3.trans YB.out, hJ3, EN.out, HL.out⟩
          clear hJ3 hk3 hy YB YJ
          gi_wp2
          go_roundw
          case rel => exact ⟨_, _, Z⟩
          case measure => rw [ME.out, leftS_of Z.out.1]; omega
        · gi_wp2
          refine bodyPost_ret (results_none rfl _ _ _) rfl ?_
          exact ⟨⟨_, rfl⟩, .inr ⟨_, PRE, hJx3⟩⟩
      · have e1 : Lib.indexByte (⟨rest.toArray⟩ : ByteArray).data.toList (10 : Int).toNat.toUInt8 = -1 := by
          have := idx_no hc
          simpa using this
        rw [e1] at IB
        have EL := lns_one hc (by intro e; rw [e] at hz; simp at hz)
        have PRE : pre ++ [rest] <+: lns s := by rw [Y.out.2.2.1, EL]; exact ⟨[], by simp⟩
        have YB : Hid (Blk (wr.setCell ⟨Bs, 0, none⟩ (strV [])) Bs 9 #[strV []]) := hide (Y.out.1.set_ 0 (strV []))
        have YJ : Hid (J pre (wr.setCell ⟨Bs, 0, none⟩ (strV []))) := hide (kJ _ _ _ Y.out.2.1 (grown_set wr Bs 0 (strV [])))
        have EN : Hid (lns s = (pre ++ [rest]) ++ lns []) := hide (by rw [Y.out.2.2.1, EL, lns_nil]; simp)
        have ME : Hid (leftS Bs wr = rest.length) := hide (leftS_of Y.out.1)
        have ZR : Hid (∀ W3, W3.heap[Bs]? = (wr.setCell ⟨Bs, 0, none⟩ (strV [])).heap[Bs]? → Blk W3 Bs 9 #[strV []]) := hide fun W3 h => h.trans YB.out
        clear hc EL Y e1 hBs h0 YB
        gi_wp2_with fail
        refine ⟨trivial, (callsIn_wide.2 (IB.out _)).mono ?_⟩
        rintro e w' ⟨rfl, rfl⟩
        obtain ⟨fn, tmps, assign, body, hy, hR⟩ := hY pre rest _ PRE YJ.out
        gi_wp2
        refine hR.mono ?_
        rintro e W3 (⟨rfl, hJ3, hk3⟩ | ⟨rfl, hJx3⟩)
        · have Z : Hid (Blk W3 Bs 9 #[strV []] ∧ J (pre ++ [rest]) W3 ∧ lns s = (pre ++ [rest]) ++ lns [] ∧ ([] : List UInt8).length ≤ s.length) := hide ⟨ZR.out _ hk3, hJ3, EN.out, Nat.zero_le _⟩
          clear hJ3 hk3 hy YJ
          gi_wp2
          go_roundw
          case rel => exact ⟨_, _, Z⟩
          case measure => rw [ME.out, leftS_of Z.out.1]; exact hz
        · gi_wp2
          refine bodyPost_ret (results_none rfl _ _ _) rfl ?_
          exact ⟨⟨_, rfl⟩, .inr ⟨_, PRE, hJx3⟩⟩
/-- strings.Lines boxes the string; the function value holds the box -/
theorem lines_any (s : List UInt8) (w : World) :
    Calls Tryz.prog 37 #[strV s] w fun e w' => e = .returned (.func (.func 55) #[] #[.pointer (some ⟨w.heap.size, 0, none⟩)]) ∧ w' = w.alloc (.cells #[strV s] 9) := by
  go_enter Tryz.func37, Tryz.ntmps37
  go_wp2
  go_ret
  exact ⟨rfl, rfl⟩
/-- the iterator hands each line on, in order -/
theorem lines_gives (n : Nat) (hn : 1 ≤ n) (Bs : Nat) (s : List UInt8) (hs : s.length ≤ 9223372036854775807) (w : World) (hBs : Blk w Bs 9 #[strV s]) :
    GivesL Fence.wide n Tryz.prog 55 #[.pointer (some ⟨Bs, 0, none⟩)] (fun x : List UInt8 => #[strV x]) Bs (lns s) w := fun l J Jx W hW kJ _ hY h0 =>
  lines1_in n hn l Bs s hs J Jx kJ hY W (hBs.below hW hBs.lt) h0
end Go.Proofs.YtaaadejamjbcbaaGreatDoor

namespace Go.Proofs.YtaaadejamjbcbaaGreatDoor
open Go Go.Lib

/-- a class by its words -/
def cnvB (ws : List (List UInt8)) : Bool := match ws with
  | [a, b, c, d, e] => nameB a && rnB b && rnB c && rnB d && rnB e
  | _ => false
def cnvC (ws : List (List UInt8)) : Cls := match ws with
  | [a, b, c, d, e] => ⟨⟨a.toArray⟩, (valL 0 b : Nat), (valL 0 c : Nat), (valL 0 d : Nat), (valL 0 e : Nat)⟩
  | _ => ⟨⟨#[]⟩, 0, 0, 0, 0⟩
def clB (l : List UInt8) : Bool := cnvB (pts 32 l)
def clC (l : List UInt8) : Cls := cnvC (pts 32 l)
def doneE (acc : List Cls) : Int := if validB acc then 0 else 1
def doneL (acc : List Cls) : List Cls := if validB acc then acc else []
/-- what is read of parts: the list, the line of an error (0: none), and the error -/
def prs : List (List UInt8) → Nat → List Cls → List Cls × Int × Int
  | [], _, acc => (doneL acc, 0, doneE acc)
  | [p], i, acc => if p = [] then (doneL acc, 0, doneE acc) else ([], (i : Int) + 1, 7)
  | p :: q :: r, i, acc => if clB p = true then prs (q :: r) (i + 1) (acc ++ [clC p]) else ([], (i : Int) + 1, 7)
/-- the same, of lines -/
def prsL : List (List UInt8) → Nat → List Cls → List Cls × Int × Int
  | [], _, acc => (doneL acc, 0, doneE acc)
  | x :: r, i, acc => if clB (bodyL x) = true ∧ endB x = true then prsL r (i + 1) (acc ++ [clC (bodyL x)]) else ([], (i : Int) + 1, 7)
theorem prs_lines : ∀ (ps : List (List UInt8)), (∀ p ∈ ps, (10 : UInt8) ∉ p) → ∀ i acc, prs ps i acc = prsL (lnsOf ps) i acc
  | [], _, _, _ => rfl
  | [p], h, i, acc => by
    rw [prs, lnsOf]
    by_cases hp : p = []
    · rw [if_pos hp, if_pos hp]; rfl
    · rw [if_neg hp, if_neg hp, prsL, end_no (h p (List.mem_cons_self ..))]
      simp
  | p :: q :: r, h, i, acc => by
    rw [prs, lnsOf, prsL, (end_yes p).1, (end_yes p).2, prs_lines (q :: r) (fun x hx => h x (List.mem_cons_of_mem _ hx))]
    simp
theorem prs_lns (s : List UInt8) : prs (pts 10 s) 0 [] = prsL (lns s) 0 [] := prs_lines _ (fun p hp => pts_mem p hp) 0 []
/-- the text of a class, without the line's end; of a list -/
def txC (c : Cls) : List UInt8 := c.nm.data.toList ++ (32 :: itoa c.se) ++ (32 :: itoa c.we) ++ (32 :: itoa c.ro) ++ (32 :: itoa c.dr)
def txL : List Cls → List UInt8
  | [] => []
  | c :: r => txC c ++ 10 :: txL r
theorem txL_append (a b : List Cls) : txL (a ++ b) = txL a ++ txL b := by
  induction a with
  | nil => rfl
  | cons c a ih => simp [txL, ih]
theorem name_no {c : UInt8} (h : c.toNat < 48) {l : List UInt8} (hl : nameB l = true) : c ∉ l := by
  cases l with
  | nil => simp
  | cons x r =>
    simp only [nameB, Bool.and_eq_true, decide_eq_true_eq] at hl
    have hw := hl.2
    have hall : ∀ y ∈ x :: r, wdB (y.toNat : Int) = true := by
      unfold wl at hw
      have e : ((x :: r).takeWhile fun b => wdB (b.toNat : Int)) = x :: r := List.IsPrefix.eq_of_length (List.takeWhile_prefix _) (by simpa using hw)
      have ha : ((x :: r).takeWhile fun b => wdB (b.toNat : Int)).all (fun b => wdB (b.toNat : Int)) = true := List.all_takeWhile
      rw [e, List.all_eq_true] at ha
      exact ha
    intro e
    have := hall c e
    simp only [wdB, letB, digB, Bool.or_eq_true, decide_eq_true_eq, beq_iff_eq] at this
    omega
theorem pts_txC {c : Cls} (h : rightB c = true) : pts 32 (txC c) = [c.nm.data.toList, itoa c.se, itoa c.we, itoa c.ro, itoa c.dr] := by
  obtain ⟨hn, _⟩ := of_rightB h
  have e : txC c = c.nm.data.toList ++ 32 :: (itoa c.se ++ 32 :: (itoa c.we ++ 32 :: (itoa c.ro ++ 32 :: itoa c.dr))) := by simp [txC]
  rw [e, pts_at (name_no (by decide) hn), pts_at (itoa_no (by decide) _), pts_at (itoa_no (by decide) _), pts_at (itoa_no (by decide) _), pts_no (itoa_no (by decide) _)]
theorem txC_no {c : Cls} (h : rightB c = true) : (10 : UInt8) ∉ txC c := by
  obtain ⟨hn, _⟩ := of_rightB h
  have h0 := name_no (c := 10) (by decide) hn
  have h1 := itoa_no (c := 10) (by decide) c.se
  have h2 := itoa_no (c := 10) (by decide) c.we
  have h3 := itoa_no (c := 10) (by decide) c.ro
  have h4 := itoa_no (c := 10) (by decide) c.dr
  simp [txC, h0, h1, h2, h3, h4]
theorem cl_txC {c : Cls} (h : rightB c = true) : clB (txC c) = true ∧ clC (txC c) = c := by
  obtain ⟨hn, h1, h2, h3, h4, h5, h6, h7, h8⟩ := of_rightB h
  obtain ⟨a1, b1⟩ := rn_dec h1 (by omega)
  obtain ⟨a2, b2⟩ := rn_dec h3 (by omega)
  obtain ⟨a3, b3⟩ := rn_dec h5 (by omega)
  obtain ⟨a4, b4⟩ := rn_dec h7 (by omega)
  unfold clB clC
  rw [pts_txC h]
  refine ⟨by simp [cnvB, hn, a1, a2, a3, a4], ?_⟩
  simp only [cnvC, b1, b2, b3, b4]
/-- a list is read from its text -/
theorem prs_txL : ∀ (l acc : List Cls) (i : Nat), (∀ c ∈ l, rightB c = true) → prs (pts 10 (txL l)) i acc = (doneL (acc ++ l), 0, doneE (acc ++ l))
  | [], acc, i, _ => by simp [txL, pts, prs]
  | c :: r, acc, i, h => by
    have hc := h c (List.mem_cons_self ..)
    have ih := prs_txL r (acc ++ [c]) (i + 1) (fun x hx => h x (List.mem_cons_of_mem _ hx))
    rw [txL, pts_at (txC_no hc)]
    cases hp : pts 10 (txL r) with
    | nil => exact absurd hp (pts_ne 10 _)
    | cons q t =>
      rw [hp] at ih
      rw [prs, (cl_txC hc).1, if_pos rfl, (cl_txC hc).2, ih, List.append_assoc]
      rfl
theorem valid_right {l : List Cls} (h : validB l = true) : ∀ c ∈ l, rightB c = true := by
  intro c hc
  obtain ⟨i, hi, rfl⟩ := List.mem_iff_getElem.1 hc
  exact ((of_validB h).2.2 i hi).1
theorem read_text {l : List Cls} (h : validB l = true) : prs (pts 10 (txL l)) 0 [] = (l, 0, 0) := by
  rw [prs_txL l [] 0 (valid_right h), List.nil_append, doneL, doneE, if_pos h, if_pos h]
theorem cl_back {p : List UInt8} (h : clB p = true) : txC (clC p) = p := by
  unfold clB at h
  unfold clC
  have hj := jn_pts 32 p
  generalize pts 32 p = ws at *
  match ws, h with
  | [a, b, c, d, e], h =>
    simp only [cnvB, Bool.and_eq_true] at h
    obtain ⟨⟨⟨⟨_, h1⟩, h2⟩, h3⟩, h4⟩ := h
    rw [← hj]
    simp only [cnvC, txC, num_back h1, num_back h2, num_back h3, num_back h4, jn]
    simp
theorem prs_back : ∀ (ps : List (List UInt8)) (i : Nat) (acc x : List Cls), ps ≠ [] → prs ps i acc = (x, 0, 0) → txL x = txL acc ++ jn 10 ps ∧ validB x = true
  | [], _, _, _, h, _ => absurd rfl h
  | [p], i, acc, x, _, h => by
    rw [prs] at h
    by_cases hp : p = []
    · rw [if_pos hp] at h
      unfold doneL doneE at h
      by_cases hv : validB acc = true
      · rw [if_pos hv, if_pos hv] at h
        injection h with h _
        subst h hp
        exact ⟨by simp [jn], hv⟩
      · rw [if_neg hv, if_neg hv] at h
        injection h with _ h
        injection h with _ h
        exact absurd h (by decide)
    · rw [if_neg hp] at h
      injection h with _ h
      injection h with _ h
      exact absurd h (by decide)
  | p :: q :: r, i, acc, x, _, h => by
    rw [prs] at h
    by_cases hc : clB p = true
    · rw [if_pos hc] at h
      obtain ⟨h1, h2⟩ := prs_back (q :: r) (i + 1) (acc ++ [clC p]) x (by simp) h
      refine ⟨?_, h2⟩
      rw [h1, txL_append, jn]
      simp [txL, cl_back hc]
    · rw [if_neg hc] at h
      injection h with _ h
      injection h with _ h
      exact absurd h (by decide)
theorem text_read {s : List UInt8} {x : List Cls} (h : prs (pts 10 s) 0 [] = (x, 0, 0)) : txL x = s ∧ validB x = true := by
  obtain ⟨h1, h2⟩ := prs_back _ _ _ _ (pts_ne 10 s) h
  exact ⟨by rw [h1, jn_pts]; rfl, h2⟩
/-- no error, then no line; an error, then nothing is read -/
theorem prs_err : ∀ (ps : List (List UInt8)) (i : Nat) (acc : List Cls), ((prs ps i acc).2.2 = 0 → (prs ps i acc).2.1 = 0) ∧ ((prs ps i acc).2.2 ≠ 0 → (prs ps i acc).1 = []) ∧ 0 ≤ (prs ps i acc).2.1 ∧ (prs ps i acc).2.1 ≤ i + ps.length ∧ 0 ≤ (prs ps i acc).2.2 ∧ (prs ps i acc).2.2 ≤ 7
  | [], i, acc => by
    rw [prs]
    unfold doneL doneE
    split <;> simp <;> omega
  | [p], i, acc => by
    rw [prs]
    unfold doneL doneE
    split
    · split <;> simp <;> omega
    · simp; omega
  | p :: q :: r, i, acc => by
    have ih := prs_err (q :: r) (i + 1) (acc ++ [clC p])
    rw [prs]
    split
    · refine ⟨ih.1, ih.2.1, ih.2.2.1, ?_, ih.2.2.2.2⟩
      have := ih.2.2.2.1
      simp at this ⊢
      omega
    · simp; omega
end Go.Proofs.YtaaadejamjbcbaaGreatDoor
