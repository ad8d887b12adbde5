/- Parts of one proof, joined: The reference's reading of a bill byte by byte: what holds at each byte; plain facts. (Printed by gen_ct.py.). Rows of items of the call's own; a row of integers that is made. What both Parses of bills return. (Printed by gen_ct.py.). Words of texts: slices of strings that read as lists; strings.Split at one byte, strings.CutSuffix at a line's end: what each returns; nothing that was there is turned. strings.SplitAfter at one byte: what it returns; nothing that was there is turned. (Printed by gen_ct.py.). The program's spans: fits, Valid, Of, result, Add, Neg, Sub, Hull, Meet; the reference's Valid, Has, Inside, fits, Add, Sub, Neg, Hull, Meet: what each returns; nothing that was there is turned. The program's texts of spans: text, Text, Parse: what each returns; nothing that was there is turned. The reference's Valid of spans: what it returns. (Printed by gen_ct.py.). The reference's texts of spans: Decimal, Text, Int, Parse: what each returns; nothing that was there is turned. -/
import Derived.Test.YtlnlaopokelggaaGreatDoorPkCostsTexts14
import Derived.Test.YtlnlaopokelggaaGreatDoorPkCostsTexts9
import Derived.Test.YtlnlaopokelggaaGreatDoorPkCostsTexts2
import Derived.Test.YtlnlaopokelggaaGreatDoorPkCostsTexts3
import Derived.Test.YtlnlaopokelggaaGreatDoorShelf4
import Derived.Deep.QuietTactic
import Derived.BigQuiet
import Derived.StillTailTactics
import Derived.Deep.RegionHeld3
import Derived.Test.YtlnlaopokelggaaGreatDoorPkCostsTexts6
namespace Go.Proofs.YtlnlaopokelggaaGreatDoor
open Go Go.Lib

/-- the items so far, and the rest -/
structure PsRel (s : List UInt8) (acc : List Itm) (fr k : Nat) : Prop where
  le : fr ≤ k
  kl : k ≤ s.length + 1
  eq : prs (pts 10 s) 0 [] = prs (pts 10 (s.drop fr)) acc.length acc
  no : (10 : UInt8) ∉ (s.drop fr).take (k - fr)
  len : acc.length ≤ fr
theorem PsRel.start (s : List UInt8) : PsRel s [] 0 0 := ⟨Nat.le_refl _, by omega, by simp, by simp, Nat.le_refl _⟩
theorem PsRel.go {s : List UInt8} {acc : List Itm} {fr k : Nat} (h : PsRel s acc fr k) (hk : k < s.length) (hc : ¬ s[k] = 10) : PsRel s acc fr (k + 1) := by
  refine ⟨by have := h.le; omega, by omega, h.eq, ?_, h.len⟩
  have e : k + 1 - fr = (k - fr) + 1 := by have := h.le; omega
  have hl : k - fr < (s.drop fr).length := by have := h.le; simp; omega
  rw [e, List.take_succ_eq_append_getElem hl]
  intro hm
  rcases List.mem_append.1 hm with hm | hm
  · exact h.no hm
  · have h2 := List.mem_singleton.1 hm
    rw [List.getElem_drop] at h2
    have e3 : fr + (k - fr) = k := by have := h.le; omega
    simp only [e3] at h2
    exact hc h2.symm
theorem PsRel.at {s : List UInt8} {acc : List Itm} {fr k : Nat} (h : PsRel s acc fr k) (hk : k < s.length) (hc : s[k] = 10) : ∃ q t, pts 10 (s.drop fr) = (s.drop fr).take (k - fr) :: q :: t ∧ pts 10 (s.drop (k + 1)) = q :: t := by
  have e : s.drop fr = (s.drop fr).take (k - fr) ++ 10 :: s.drop (k + 1) := by
    have h1 : (s.drop fr).drop (k - fr) = s.drop k := by rw [List.drop_drop]; congr 1; have := h.le; omega
    have h2 : s.drop k = s[k] :: s.drop (k + 1) := List.drop_eq_getElem_cons hk
    rw [hc] at h2
    rw [← h2, ← h1, List.take_append_drop]
  have e2 : pts 10 (s.drop fr) = (s.drop fr).take (k - fr) :: pts 10 (s.drop (k + 1)) := by
    conv => lhs; rw [e]
    exact pts_at h.no
  cases hp : pts 10 (s.drop (k + 1)) with
  | nil => exact absurd hp (pts_ne 10 _)
  | cons q t => exact ⟨q, t, by rw [e2, hp], rfl⟩
theorem PsRel.hit {s : List UInt8} {acc : List Itm} {fr k : Nat} (h : PsRel s acc fr k) (hk : k < s.length) (hc : s[k] = 10) (hb : clB ((s.drop fr).take (k - fr)) = true) : PsRel s (acc ++ [clC ((s.drop fr).take (k - fr))]) (k + 1) (k + 1) := by
  obtain ⟨q, t, e1, e2⟩ := h.at hk hc
  refine ⟨Nat.le_refl _, by omega, ?_, by simp, by have := h.len; have := h.le; simp; omega⟩
  rw [h.eq, e1, prs, if_pos hb, e2, List.length_append]
  rfl
theorem PsRel.bad {s : List UInt8} {acc : List Itm} {fr k : Nat} (h : PsRel s acc fr k) (hk : k < s.length) (hc : s[k] = 10) (hb : clB ((s.drop fr).take (k - fr)) = false) : prs (pts 10 s) 0 [] = ([], (acc.length : Int) + 1, 7) := by
  obtain ⟨q, t, e1, e2⟩ := h.at hk hc
  rw [h.eq, e1, prs, hb]
  rfl
theorem PsRel.last {s : List UInt8} {acc : List Itm} {fr : Nat} (h : PsRel s acc fr s.length) : pts 10 (s.drop fr) = [s.drop fr] := by
  have hn := h.no
  rw [List.take_of_length_le (by simp)] at hn
  exact pts_no hn
theorem PsRel.done {s : List UInt8} {acc : List Itm} (h : PsRel s acc s.length s.length) : prs (pts 10 s) 0 [] = (doneL acc, 0, doneE acc) := by
  rw [h.eq, h.last, List.drop_length, prs, if_pos rfl]
theorem PsRel.open {s : List UInt8} {acc : List Itm} {fr : Nat} (h : PsRel s acc fr s.length) (hf : fr < s.length) : prs (pts 10 s) 0 [] = ([], (acc.length : Int) + 1, 7) := by
  rw [h.eq, h.last, prs, if_neg]
  intro e
  have := congrArg List.length e
  simp at this
  omega
/-- behind the end: the last byte was a line's end -/
theorem PsRel.over {s : List UInt8} {acc : List Itm} (h : PsRel s acc (s.length + 1) (s.length + 1)) : acc.length ≤ s.length + 1 := h.len
end Go.Proofs.YtlnlaopokelggaaGreatDoor

namespace Go.Proofs.YtlnlaopokelggaaGreatDoor
open Go Go.RowKit

abbrev Itm.cs (x : Itm) : List Value := [.string x.nm, .int .i64 x.am, .int .i64 x.pr]
def flatItm (l : List Itm) : List Value := l.flatMap Itm.cs
theorem flatItm_append (a b : List Itm) : flatItm (a ++ b) = flatItm a ++ flatItm b := by simp [flatItm]
theorem flatItm_len (l : List Itm) : (flatItm l).length = l.length * 3 := by
  induction l with
  | nil => rfl
  | cons c l ih => simp only [flatItm, List.flatMap_cons, List.length_append, List.length_cons] at ih ⊢; rw [ih]; simp; omega
theorem flatItm_at : ∀ (l : List Itm) (i : Nat) (h : i < l.length), (flatItm l)[i * 3]? = some (.string l[i].nm) ∧ (flatItm l)[i * 3 + 1]? = some (.int .i64 l[i].am) ∧ (flatItm l)[i * 3 + 2]? = some (.int .i64 l[i].pr)
  | [], i, h => absurd h (by simp)
  | c :: l, 0, _ => ⟨rfl, rfl, rfl⟩
  | c :: l, i + 1, h => by
    have ih := flatItm_at l i (by simpa using h)
    have e : flatItm (c :: l) = c.cs ++ flatItm l := rfl
    have k : ∀ j, (flatItm (c :: l))[(i + 1) * 3 + j]? = (flatItm l)[i * 3 + j]? := fun j => by
      rw [e, List.getElem?_append_right (by simp; omega)]
      congr 1
      simp; omega
    exact ⟨(k 0).trans ih.1, (k 1).trans ih.2.1, (k 2).trans ih.2.2⟩
theorem flatItm_set : ∀ (l : List Itm) (i : Nat) (h : i < l.length) (a : Int), (flatItm l).set (i * 3 + 1) (.int .i64 a) = flatItm (l.set i ⟨l[i].nm, a, l[i].pr⟩)
  | [], _, h, _ => absurd h (by simp)
  | c :: l, 0, _, a => rfl
  | c :: l, i + 1, h, a => by
    have ih := flatItm_set l i (by simpa using h) a
    have e : ∀ (c : Itm) l, flatItm (c :: l) = c.cs ++ flatItm l := fun _ _ => rfl
    rw [List.set_cons_succ, e, e, List.set_append_right _ _ (by simp; omega)]
    simp only [List.getElem_cons_succ]
    rw [← ih]
    congr 2
    simp; omega
theorem flatItm_one (l : List Itm) : ∀ u ∈ flatItm l, u.oneCell' = true := by
  intro u hu
  obtain ⟨x, _, hx⟩ := List.mem_flatMap.1 hu
  simp only [Itm.cs, List.mem_cons, List.not_mem_nil, or_false] at hx
  rcases hx with rfl | rfl | rfl <;> rfl
theorem itm_info : (Tryz.prog.info? 34).map (fun i => (i.zero, i.size, i.bytes)) = some (some (.agg #[.string ⟨#[]⟩, .int .i64 0, .int .i64 0]), 3, 32) := by kernel_rfl
/-- a row of items of the call's own reads as a list -/
theorem ItmSl.of_row {w : World} {base : Nat} {e : TypeId} {v : Value} {n : Nat} {l : List Itm} (h : w.ownsRow base e 3 v n (flatItm l)) (hn : ∀ i (h : i < l.length), l[i].nm.size ≤ maxLen) : ∃ A c, v = .slice A l.length c ∧ ItmSl w A l := by
  have hl : n = l.length := by have := h.1; rw [flatItm_len] at this; omega
  subst hl
  rcases h.2 with ⟨rfl, h0⟩ | ⟨g, cap, cur, rfl, _, hg, hc, hm, hs, ht⟩
  · exact ⟨none, 0, by rw [h0], ⟨by rw [h0]; unfold maxLen; omega, hn⟩, fun h => by omega⟩
  · refine ⟨_, cap, rfl, ⟨by omega, hn⟩, fun h0 => ⟨g, 0, rfl, ?_, fun i hi => ?_⟩⟩
    · rcases Nat.lt_or_ge g w.heap.size with k | k
      · exact k
      · rw [Array.getElem?_eq_none k] at hg; cases hg
    · have c : ∀ j u, (flatItm l)[j]? = some u → w.cell? ⟨g, j, none⟩ = some u := fun j u hj => by
        rw [cell_of_row w g j cur e (0, 0) hg]
        rw [← ht] at hj
        rw [List.getElem?_take] at hj
        split at hj
        · simpa using hj
        · cases hj
      obtain ⟨a0, a1, a2⟩ := flatItm_at l i hi
      exact ⟨c _ _ (by rw [Nat.zero_add]; exact a0), c _ _ (by rw [Nat.zero_add]; exact a1), c _ _ (by rw [Nat.zero_add]; exact a2)⟩
/-- one cell of an own row is set -/
theorem row_put {w : World} {base : Nat} {e : TypeId} {size n g cap : Nat} {xs : List Value} (h : w.ownsRow base e size (.slice (some ⟨g, 0, none⟩) n cap) n xs) (j : Nat) (u : Value) :
    (w.setCell ⟨g, j, none⟩ u).ownsRow base e size (.slice (some ⟨g, 0, none⟩) n cap) n (xs.set j u) := by
  refine ⟨by rw [List.length_set]; exact h.1, ?_⟩
  rcases h.2 with ⟨h0, _⟩ | ⟨g', cap', cur, e', hb, hg, hc, hm, hs, ht⟩
  · cases h0
  · simp only [Value.slice.injEq, Option.some.injEq, Addr.mk.injEq, and_true] at e'
    obtain ⟨rfl, -, rfl⟩ := e'
    refine .inr ⟨g, cap, cur.setIfInBounds j u, rfl, hb, ?_, hc, hm, by simpa using hs, ?_⟩
    · exact Blk.set_ (show Blk w g e cur from hg) j u
    · rw [Array.toList_setIfInBounds, List.take_set, ht]
/-- a bill in memory, and an error -/
def BilPost (l : List Itm) (er : Int) (w : World) (e : Ending) (w' : World) : Prop := Below w.heap.size w w' ∧ ∃ (A : Option Addr) (c : Nat), e = .returned (.tuple #[.slice A l.length c, .int .i64 er]) ∧ ItmSl w' A l
theorem int_infoP : (Tryz.prog.info? 3).map (fun i => (i.zero, i.size, i.bytes)) = some (some (.int .i64 0), 1, 8) := by kernel_rfl
theorem make_ints (c : Nat) (hc : c ≤ 1000) (W : World) : (Instr.makeSlice 135 (.int .i64 (c : Int)) (.int .i64 (c : Int))).run Tryz.prog W = .ok (.slice (some ⟨W.heap.size, 0, none⟩) c c) (W.alloc (.cells (mkRow c (fun _ => .int .i64 0)) 3)) := by
  obtain ⟨i1, hi1, hy0, hy1, hy2⟩ := info_parts int_infoP
  have := run_make_rowN (P := Tryz.prog) 135 3 i1 (.int .i64 0) Tryz.underlying135 hi1 hy0 .i64 .i64 c c (by omega) (by rw [hy2]; omega) (by omega) W
  rw [hy1, Nat.mul_one] at this
  rw [show mkRow c (fun _ => Value.int .i64 0) = madeCells (Value.int .i64 0).cells c from (mkRow_made c (.int .i64 0)).symm]
  exact this
end Go.Proofs.YtlnlaopokelggaaGreatDoor

namespace Go.Proofs.YtlnlaopokelggaaGreatDoor
open Go Go.RowKit

theorem lnN_cons (c : UInt8) (r : List UInt8) : lnN (c :: r) = (if c = 10 ∨ r = [] then 1 else 0) + lnN r := by cases r <;> simp [lnN]
def colI (n : Int) : Int := if n = 0 then 0 else 1
def PrsPost (s : List UInt8) (w : World) (e : Ending) (w' : World) : Prop :=
  Below w.heap.size w w' ∧ ∃ (A : Option Addr) (c : Nat), e = .returned (.tuple #[.slice A (prsF s).1.length c, .agg #[.int .i64 (prsF s).2.1, .int .i64 (colI (prsF s).2.1)], .int .i64 (prsF s).2.2]) ∧ ItmSl w' A (prsF s).1 ∧ (prsF s).1.length ≤ c
theorem PrsPost.err {s : List UInt8} {w w' : World} {ln er : Int} (hb : Below w.heap.size w w') (h : prsF s = ([], ln, er)) : PrsPost s w (.returned (.tuple #[.slice none 0 0, .agg #[.int .i64 ln, .int .i64 (colI ln)], .int .i64 er])) w' := by
  refine ⟨hb, none, 0, by rw [h]; rfl, by rw [h]; exact ItmSl.nil _ _, by rw [h]; exact Nat.le_refl _⟩
theorem PrsPost.bad {s : List UInt8} {w w' : World} {n : Nat} (hb : Below w.heap.size w w') (h : prsF s = ([], (n : Int) + 1, 7)) : PrsPost s w (.returned (.tuple #[.slice none 0 0, .agg #[.int .i64 ((n : Int) + 1), .int .i64 1], .int .i64 7])) w' := by
  have e : colI ((n : Int) + 1) = 1 := by unfold colI; rw [if_neg (by omega)]
  have := PrsPost.err hb h
  rw [e] at this
  exact this
theorem ItmSl.of_rowC {w : World} {base : Nat} {e : TypeId} {v : Value} {n : Nat} {l : List Itm} (h : w.ownsRow base e 3 v n (flatItm l)) (hn : ∀ i (h : i < l.length), l[i].nm.size ≤ maxLen) : ∃ A c, v = .slice A l.length c ∧ ItmSl w A l ∧ l.length ≤ c := by
  have hl : n = l.length := by have := h.1; rw [flatItm_len] at this; omega
  obtain ⟨A, c, e1, hs⟩ := ItmSl.of_row h hn
  refine ⟨A, c, e1, hs, ?_⟩
  rcases h.2 with ⟨e2, h0⟩ | ⟨g, cap, cur, e2, _, hg, hc, hm, hs, ht⟩
  · omega
  · rw [e2] at e1; cases e1; omega
theorem PrsPost.yes {s : List UInt8} {w w3 : World} {acc : List Itm} {A : Option Addr} {c : Nat} (X : Own w w3 [(w.heap.size, 26, #[.int .i64 0, .int .i64 0])]) (R : w3.ownsRow w.heap.size 34 3 (.slice A acc.length c) acc.length (flatItm acc))
    (hn : ∀ x ∈ acc, x.nm.size ≤ maxLen) (E : prsF s = (acc, 0, 0)) : PrsPost s w (.returned (.tuple #[.slice A acc.length c, .agg #[.int .i64 0, .int .i64 0], .int .i64 0])) ((w3.setCell ⟨w.heap.size, 0, none⟩ (.int .i64 0)).setCell ⟨w.heap.size, 1, none⟩ (.int .i64 0)) := by
  have B := X.2 _ (List.mem_singleton.2 rfl)
  have R2 := row_set (row_set R B (by show 34 ≠ 26; decide) 0 (.int .i64 0)) (B.set_ 0 (.int .i64 0)) (by show 34 ≠ 26; decide) 1 (.int .i64 0)
  obtain ⟨A', c', e1, hs, hc⟩ := ItmSl.of_rowC R2 (fun i h => hn _ (List.getElem_mem h))
  cases e1
  exact ⟨below_set (below_set X.1 (Nat.le_refl _) _) (Nat.le_refl _) _, A, c, by rw [E]; rfl, by rw [E]; exact hs, by rw [E]; exact hc⟩
end Go.Proofs.YtlnlaopokelggaaGreatDoor

namespace Go.Proofs.YtlnlaopokelggaaGreatDoor
open Go Go.RowKit

/-- a slice of strings that reads as a list -/
def StrSl (w : World) (A : Option Addr) (l : List (List UInt8)) : Prop :=
  l.length ≤ 9223372036854775807 ∧ (0 < l.length → ∃ b off, A = some ⟨b, off, none⟩ ∧ b < w.heap.size ∧ ∀ i (h : i < l.length), w.cell? ⟨b, off + i, none⟩ = some (strV l[i]))
theorem StrSl.below {w w' : World} {A : Option Addr} {l : List (List UInt8)} (h : StrSl w A l) (hb : Below w.heap.size w w') : StrSl w' A l :=
  ⟨h.1, fun hl => by obtain ⟨b, off, e, hlt, hat⟩ := h.2 hl; exact ⟨b, off, e, Nat.lt_of_lt_of_le hlt hb.size, fun i hi => (hb.cell (p := ⟨b, off + i, none⟩) hlt).trans (hat i hi)⟩⟩
theorem StrSl.nil (w : World) (A : Option Addr) : StrSl w A [] := ⟨by simp, fun h => by simp at h⟩
theorem StrSl.of_blk {w : World} {g : Nat} {t : TypeId} {l : List (List UInt8)} (h : Blk w g t (l.map strV).toArray) (hl : l.length ≤ 9223372036854775807) : StrSl w (some ⟨g, 0, none⟩) l :=
  ⟨hl, fun _ => ⟨g, 0, rfl, h.lt, fun i hi => by rw [Nat.zero_add, h.cell]; simp [hi]⟩⟩
theorem StrSl.of_row {w : World} {base : Nat} {e : TypeId} {v : Value} {n : Nat} {l : List (List UInt8)} (h : w.ownsRow base e 1 v n (l.map strV)) (hb : l.length ≤ 9223372036854775807) : ∃ A c, v = .slice A l.length c ∧ StrSl w A l ∧ l.length ≤ c := by
  have hn : l.length = n := by have := h.1; simpa using this
  rcases h.2 with ⟨rfl, h0⟩ | ⟨g, cap, cur, rfl, hg, hcell, hnc, _, hsz, htake⟩
  · rw [h0] at hn
    have : l = [] := List.eq_nil_of_length_eq_zero hn
    subst this
    exact ⟨none, 0, rfl, StrSl.nil w none, by simp⟩
  · subst hn
    refine ⟨some ⟨g, 0, none⟩, cap, rfl, ⟨hb, fun _ => ⟨g, 0, rfl, (Array.getElem?_eq_some_iff.1 hcell).1, fun i hi => ?_⟩⟩, hnc⟩
    have hc := h.cells (g := g) rfl i (strV l[i]) (by simp [hi])
    have e : (⟨g, 0, none⟩ : Addr).add i = ⟨g, 0 + i, none⟩ := by unfold Addr.add; split <;> simp_all
    rw [e] at hc
    exact hc
theorem pts_length (c : UInt8) : ∀ l : List UInt8, (pts c l).length ≤ l.length + 1
  | [] => by simp [pts]
  | b :: r => by
    have := pts_length c r
    rw [pts]
    split
    · simp; omega
    · split
      · simp
      · rename_i h t e
        rw [e] at this
        simp at this ⊢
        omega
theorem pts_len {c : UInt8} : ∀ {l : List UInt8}, ∀ p ∈ pts c l, p.length ≤ l.length
  | [], p, h => by simp [pts] at h; simp [h]
  | b :: r, p, h => by
    have ih := fun p h => pts_len (c := c) (l := r) p h
    rw [pts] at h
    by_cases hb : b = c
    · rw [if_pos hb] at h
      rcases List.mem_cons.1 h with rfl | h
      · simp
      · have := ih p h; simp; omega
    · rw [if_neg hb] at h
      cases hp : pts c r with
      | nil => exact absurd hp (pts_ne c r)
      | cons q t =>
        rw [hp] at h ih
        rcases List.mem_cons.1 h with rfl | h
        · have := ih q (List.mem_cons_self ..); simp; omega
        · have := ih p (List.mem_cons_of_mem _ h); simp; omega
theorem lns_len {s : List UInt8} : ∀ x ∈ lns s, x.length ≤ s.length + 1 := fun x h => lnsOf_len (pts 10 s) s.length (fun p hp => pts_len p hp) x h
theorem lns_length (s : List UInt8) : (lns s).length ≤ s.length + 1 := by
  have key : ∀ ps : List (List UInt8), (lnsOf ps).length ≤ ps.length := by
    intro ps
    induction ps with
    | nil => simp [lnsOf]
    | cons p ps ih =>
      cases ps with
      | nil => rw [lnsOf]; split <;> simp
      | cons q r => rw [lnsOf]; simp at ih ⊢; exact ih
  exact Nat.le_trans (key _) (pts_length 10 s)
theorem body_len (x : List UInt8) : (bodyL x).length ≤ x.length := by unfold bodyL; split <;> simp
def SplPost (l : List (List UInt8)) (w : World) (e : Ending) (w' : World) : Prop := Below w.heap.size w w' ∧ ∃ A c, e = .returned (.slice A l.length c) ∧ StrSl w' A l ∧ l.length ≤ c
theorem split_any (l : List UInt8) (c : UInt8) (w : World) (hl : l.length < 4294967281) (ht : TxtW w) : Calls Tryz.prog 19 #[strV l, strV [c]] w (SplPost (pts c l) w) := by
  obtain ⟨m, hm⟩ := ht.2.1
  have hs : (⟨l.toArray⟩ : ByteArray).size = l.length := by simp [ByteArray.size]
  have hd : (⟨l.toArray⟩ : ByteArray).data.toList = l := by simp
  have e1 : (Lib.splitB ⟨[c].toArray⟩ 0 (Lib.countB ⟨l.toArray⟩ ⟨[c].toArray⟩) ⟨l.toArray⟩).map (·.data.toList) = pts c l := by
    rw [Lib.splitB_data]
    have := split_pts c l.length l (Nat.le_refl _)
    unfold Lib.split at this
    rw [← this]
  have e2 : (Lib.splitB ⟨[c].toArray⟩ 0 (Lib.countB ⟨l.toArray⟩ ⟨[c].toArray⟩) ⟨l.toArray⟩).map Value.string = (pts c l).map strV := by
    rw [← e1, List.map_map]
    exact List.map_congr_left fun x _ => (strV_data x).symm
  have e3 : Lib.countB ⟨l.toArray⟩ ⟨[c].toArray⟩ + 1 = (pts c l).length := by
    rw [← e1, List.length_map, Lib.splitB_all ⟨[c].toArray⟩ (by simp [ByteArray.size]) 0 _ _ rfl]
  refine (Tryz.strings_Split ⟨l.toArray⟩ ⟨[c].toArray⟩ m w (by rw [hs]; exact hl) hm (by simp [ByteArray.size])).mono fun e w' ⟨he, hw⟩ => ?_
  rw [e2] at hw
  rw [e3] at he
  subst hw
  exact ⟨(Below.refl _ _).alloc (Nat.le_refl _) _, _, _, he, StrSl.of_blk (Blk.new _ _ _) (by have := pts_length c l; omega), Nat.le_refl _⟩
theorem ba_take (l : List UInt8) (k : Nat) : (⟨l.toArray⟩ : ByteArray).extract 0 k = ⟨(l.take k).toArray⟩ := by
  apply ByteArray.ext
  rw [ByteArray.data_extract]
  apply Array.ext'
  simp
theorem ba_drop (l : List UInt8) (k : Nat) : (⟨l.toArray⟩ : ByteArray).extract k (⟨l.toArray⟩ : ByteArray).size = ⟨(l.drop k).toArray⟩ := by
  apply ByteArray.ext
  rw [ByteArray.data_extract]
  apply Array.ext'
  simp [ByteArray.size]
  rw [List.take_of_length_le (by simp)]
theorem end_len {x : List UInt8} (h : endB x = true) : 1 ≤ x.length := by
  unfold endB Lib.hasSuffix at h
  have := (List.isSuffixOf_iff_suffix.1 h).length_le
  simpa using this
set_option maxHeartbeats 400000 in
theorem scutSuf_any (l : List UInt8) (w : World) (hl : l.length ≤ 9223372036854775807) :
    Calls Tryz.prog 42 #[strV l, strV [10]] w fun e w' => e = .returned (.tuple #[strV (bodyL l), .bool (endB l)]) ∧ w = w' := by
  have hs : (⟨l.toArray⟩ : ByteArray).size = l.length := by simp [ByteArray.size]
  have S := hide (fun W => Tryz.stringslite_HasSuffix ⟨l.toArray⟩ ⟨#[10]⟩ W (by rw [hs]; exact hl))
  have eE : Lib.hasSuffix (⟨l.toArray⟩ : ByteArray).data.toList (⟨#[10]⟩ : ByteArray).data.toList = endB l := by simp [endB]
  rw [eE] at S
  rcases Bool.eq_false_or_eq_true (endB l) with h | h
  · have h1 := end_len h
    have eB : bodyL l = l.take (l.length - 1) := by unfold bodyL; rw [if_pos h]
    have EB := hide (And.intro eB (ba_take l (l.length - 1)))
    have i1 := IntWalk.i64_in ((l.length : Int) - 1) (by omega)
    have t1 : ((l.length : Int) - 1).toNat = l.length - 1 := by omega
    rw [h] at S
    rw [h]
    clear h eB eE hs
    go_enter Tryz.func42, Tryz.ntmps42
    go_wp2_with fail
    refine (S.out _).mono ?_
    rintro e w' ⟨rfl, rfl⟩
    go_wp2
    go_ret2
    exact ⟨by rw [EB.out.1]; show Ending.returned (.tuple #[.string _, _]) = _; rw [EB.out.2]; rfl, rfl⟩
  · have EB : Hid (bodyL l = l) := hide (by unfold bodyL; rw [if_neg (by rw [h]; simp)])
    rw [h] at S
    rw [h]
    clear h eE hs
    go_enter Tryz.func42, Tryz.ntmps42
    go_wp2_with fail
    refine (S.out _).mono ?_
    rintro e w' ⟨rfl, rfl⟩
    go_wp2
    go_ret2
    exact ⟨by rw [EB.out]; rfl, rfl⟩
set_option maxHeartbeats 400000 in
theorem cutSuf_any (l : List UInt8) (w : World) (hl : l.length ≤ 9223372036854775807) :
    Calls Tryz.prog 18 #[strV l, strV [10]] w fun e w' => e = .returned (.tuple #[strV (bodyL l), .bool (endB l)]) ∧ w = w' := by
  have S := hide (fun W => scutSuf_any l W hl)
  generalize bodyL l = b at *
  generalize endB l = t at *
  go_enter Tryz.func18, Tryz.ntmps18
  go_wp2_with fail
  refine (S.out _).mono ?_
  rintro e w' ⟨rfl, rfl⟩
  go_wp2
  go_ret2
  exact ⟨rfl, rfl⟩
end Go.Proofs.YtlnlaopokelggaaGreatDoor

namespace Go.Proofs.YtlnlaopokelggaaGreatDoor
open Go Go.RowKit

/-- parts, each with its separator -/
def aft (c : UInt8) : List (List UInt8) → List (List UInt8)
  | [] => []
  | [p] => [p]
  | p :: q :: r => (p ++ [c]) :: aft c (q :: r)
theorem after_pts (c : UInt8) : ∀ (n : Nat) (l : List UInt8), l.length ≤ n → Lib.splitK [c] 1 (Lib.count l [c]) l = aft c (pts c l) := by
  intro n
  induction n with
  | zero =>
    intro l h
    have : l = [] := List.eq_nil_of_length_eq_zero (by omega)
    subst this
    rw [Lib.count_miss (index_no (by simp))]
    rfl
  | succ n ih =>
    intro l h
    by_cases hc : c ∈ l
    · obtain ⟨a, r, rfl, ha⟩ := split_at_first hc
      have hi : Lib.index (a ++ c :: r) [c] = (a.length : Int) := index_at (t := []) (r := r) ha
      have hd : (a ++ c :: r).drop (a.length + 1) = r := by simp [List.drop_append]
      have hcount := Lib.count_hit (s := a ++ c :: r) (sub := [c]) (i := a.length) (by simp) hi
      rw [show a.length + [c].length = a.length + 1 from rfl, hd] at hcount
      rw [hcount, Nat.add_comm, Lib.splitK, if_neg (by rw [hi]; simp), hi]
      rw [pts_at ha]
      have e1 : (a ++ c :: r).take ((a.length : Int).toNat + 1) = a ++ [c] := by
        rw [Int.toNat_natCast, List.take_append, List.take_of_length_le (by omega)]
        simp
      have e2 : (a ++ c :: r).drop ((a.length : Int).toNat + [c].length) = r := by
        show (a ++ c :: r).drop (a.length + 1) = r
        exact hd
      rw [e1, e2]
      have := ih r (by simp at h; omega)
      rw [this]
      cases hp : pts c r with
      | nil => exact absurd hp (pts_ne c r)
      | cons q t => rfl
    · rw [pts_no hc, Lib.count_miss (index_no hc)]
      rfl
theorem aft_length (c : UInt8) : ∀ ps, (aft c ps).length = ps.length
  | [] => rfl
  | [p] => rfl
  | p :: q :: r => by rw [aft, List.length_cons, aft_length c (q :: r)]; rfl
/-- the last part is empty, or not: the lines -/
theorem aft_last : ∀ ps, ps ≠ [] → ∃ M x, aft 10 ps = M ++ [x] ∧ lnsOf ps = if x = [] then M else M ++ [x]
  | [], h => absurd rfl h
  | [p], _ => ⟨[], p, rfl, by rw [lnsOf]; rfl⟩
  | p :: q :: r, _ => by
    obtain ⟨M, x, h1, h2⟩ := aft_last (q :: r) (by simp)
    refine ⟨(p ++ [10]) :: M, x, by rw [aft, h1]; rfl, ?_⟩
    rw [lnsOf, h2]
    split <;> rfl
theorem StrSl.front {w : World} {A : Option Addr} {M L : List (List UInt8)} (h : StrSl w A (M ++ L)) : StrSl w A M := by
  refine ⟨by have := h.1; simp at this; omega, fun hl => ?_⟩
  obtain ⟨b, off, e, hlt, hat⟩ := h.2 (by simp; omega)
  refine ⟨b, off, e, hlt, fun i hi => ?_⟩
  have := hat i (by simp; omega)
  rw [List.getElem_append_left hi] at this
  exact this
/-- with the very block -/
def AftPost (L : List (List UInt8)) (w : World) (e : Ending) (w' : World) : Prop := e = .returned (.slice (some ⟨w.heap.size, 0, none⟩) L.length L.length) ∧ w' = w.alloc (.cells (L.map strV).toArray 9)
set_option maxHeartbeats 1000000 in
theorem splitAfter_own (l : List UInt8) (c : UInt8) (w : World) (hl : l.length < 4294967281) (ht : TxtW w) : Calls Tryz.prog 17 #[strV l, strV [c]] w (AftPost (aft c (pts c l)) w) := by
  obtain ⟨m, hm⟩ := ht.2.1
  have hs : (⟨l.toArray⟩ : ByteArray).size = l.length := by simp [ByteArray.size]
  have hle := Lib.countB_le ⟨[c].toArray⟩ (by simp [ByteArray.size]) _ (⟨l.toArray⟩ : ByteArray) (Nat.le_refl _)
  have hlen := Lib.splitB_all ⟨[c].toArray⟩ (by simp [ByteArray.size]) 1 _ (⟨l.toArray⟩ : ByteArray) rfl
  have e1 : (Lib.splitB ⟨[c].toArray⟩ 1 (Lib.countB ⟨l.toArray⟩ ⟨[c].toArray⟩) ⟨l.toArray⟩).map (·.data.toList) = aft c (pts c l) := by
    rw [Lib.splitB_data]
    exact after_pts c l.length l (Nat.le_refl _)
  have e2 : (Lib.splitB ⟨[c].toArray⟩ 1 (Lib.countB ⟨l.toArray⟩ ⟨[c].toArray⟩) ⟨l.toArray⟩).map Value.string = (aft c (pts c l)).map strV := by
    rw [← e1, List.map_map]
    exact List.map_congr_left fun x _ => (strV_data x).symm
  have G := Any.strings_genSplit (P := Tryz.prog) (ρ := Tryz.lays146_ren) { Tryz.lays146 with } (by kernel_rfl) ⟨l.toArray⟩ ⟨[c].toArray⟩ 1 (-1) (Lib.countB ⟨l.toArray⟩ ⟨[c].toArray⟩ + 1) m w (by rw [hs]; exact hl) hm (by simp [ByteArray.size]) (by simp [ByteArray.size]) (by decide) (by decide) (by rw [if_pos (by decide)]; omega)
  rw [Nat.add_sub_cancel] at G
  have e4 : Lib.cellsOf (Lib.splitB ⟨[c].toArray⟩ 1 (Lib.countB ⟨l.toArray⟩ ⟨[c].toArray⟩) ⟨l.toArray⟩) (Lib.countB ⟨l.toArray⟩ ⟨[c].toArray⟩ + 1) = ((aft c (pts c l)).map strV).toArray := by
    rw [← hlen, Lib.cellsOf_full, e2]
  have e3 : Lib.countB ⟨l.toArray⟩ ⟨[c].toArray⟩ + 1 = (aft c (pts c l)).length := by rw [← hlen, ← e1, List.length_map]
  rw [e4, hlen, e3] at G
  have G2 : Hid (Calls Tryz.prog 41 #[strV l, strV [c], .int .i64 1, .int .i64 (-1)] w fun e w' => e = .returned (.slice (some ⟨w.heap.size, 0, none⟩) (aft c (pts c l)).length (aft c (pts c l)).length) ∧ w' = w.alloc (.cells ((aft c (pts c l)).map strV).toArray 9)) := hide G
  clear G e1 e2 e3 e4 hlen hle hm ht
  generalize aft c (pts c l) = L at *
  go_enter Tryz.func17, Tryz.ntmps17
  go_wp2_with fail
  refine G2.out.mono ?_
  rintro e w' ⟨rfl, rfl⟩
  go_wp2
  go_ret
  exact ⟨rfl, rfl⟩
end Go.Proofs.YtlnlaopokelggaaGreatDoor

namespace Go.Proofs.YtlnlaopokelggaaGreatDoor
open Go.RowKit

set_option maxHeartbeats 400000 in
theorem fits_any (n : Int) (w : World) : Calls Tryz.prog 111 #[.int .i64 n] w fun e w' => e = .returned (.bool (fitB n)) ∧ w = w' := by
  by_cases h1 : -72057594037927936 ≤ n <;> by_cases h2 : n ≤ 72057594037927936
  all_goals
    go_enter Tryz.func111, Tryz.ntmps111
    go_wp2
    go_ret
    refine ⟨ret_bool ?_, rfl⟩
    simp [fitB, h1, h2]
set_option maxHeartbeats 400000 in
theorem valid_any (a : Sp) (w : World) : Calls Tryz.prog 75 #[a.val] w fun e w' => e = .returned (.bool (vB a)) ∧ Below w.heap.size w w' := by
  by_cases h1 : a.lo ≤ a.hi
  · rcases Bool.eq_false_or_eq_true (fitB a.lo) with h2 | h2
    all_goals
      go_enter Tryz.func75, Tryz.ntmps75
      go_wp2_with fail
      refine (fits_any _ _).mono ?_
      rintro e w' ⟨rfl, rfl⟩
      rw [h2]
    · go_wp2_with fail
      refine (fits_any _ _).mono ?_
      rintro e w' ⟨rfl, rfl⟩
      go_wp2
      go_ret
      exact ⟨ret_bool (by simp [vB, h1, h2]), by go_grown⟩
    · go_wp2
      go_ret
      exact ⟨ret_bool (by simp [vB, h2]), by go_grown⟩
  · go_enter Tryz.func75, Tryz.ntmps75
    go_wp2
    go_ret
    have h2 : ¬ a.lo ≤ a.hi := by omega
    exact ⟨ret_bool (by simp [vB, h2]), by go_grown⟩
def RetSE (s : Sp) (er : Int) (w : World) (e : Ending) (w' : World) : Prop := e = .returned (.tuple #[s.val, .int .i64 er]) ∧ Below w.heap.size w w'
theorem RetSE.mk {s s' : Sp} {er er' : Int} {w w' : World} (hb : Below w.heap.size w w') (h1 : s = s') (h2 : er = er') : RetSE s er w (.returned (.tuple #[s'.val, .int .i64 er'])) w' := by subst h1 h2; exact ⟨rfl, hb⟩
end Go.Proofs.YtlnlaopokelggaaGreatDoor

namespace Go.Proofs.YtlnlaopokelggaaGreatDoor
open Go Go.RowKit

theorem vB_i64 {a : Sp} (h : vB a = true) : (-9223372036854775808 ≤ a.lo ∧ a.lo ≤ 9223372036854775807) ∧ -9223372036854775808 ≤ a.hi ∧ a.hi ≤ 9223372036854775807 := by
  obtain ⟨h1, h2, h3⟩ := vB_iff.1 h
  omega
set_option maxRecDepth 100000 in
set_option maxHeartbeats 1000000 in
theorem text_any (a : Sp) (w : World) (ha : (-9223372036854775808 ≤ a.lo ∧ a.lo ≤ 9223372036854775807) ∧ -9223372036854775808 ≤ a.hi ∧ a.hi ≤ 9223372036854775807) (ht : TxtW w) : Calls Tryz.prog 76 #[a.val] w (RetV (strV (txS a)) w) := by
  have X := (Own.start w).alloc #[.int .i64 a.lo, .int .i64 a.hi] 40
  have HT := hide ht
  have I1 := hide (fun W hW => itoaL a.lo W ha.1.1 ha.1.2 hW)
  have I2 := hide (fun W hW => itoaL a.hi W ha.2.1 ha.2.2 hW)
  have hr := X.r1
  clear ht
  by_cases h : a.lo = a.hi
  · have E : Hid (txS a = Lib.itoa a.lo) := hide (by unfold txS; rw [if_pos h])
    have e0 : (a.lo == a.hi) = true := by simpa using h
    clear h
    go_enter Tryz.func76, Tryz.ntmps76
    go_wp2_with fail
    refine (I1.out _ (HT.out.below X.1)).mono ?_
    rintro e w1 ⟨rfl, hb⟩
    replace X := X.to hb
    clear hb hr
    go_wp2
    go_ret
    exact ⟨by rw [E.out]; rfl, X.1⟩
  · have E : Hid (txS a = Lib.itoa a.lo ++ 46 :: 46 :: Lib.itoa a.hi) := hide (by unfold txS; rw [if_neg h])
    have e0 : (a.lo == a.hi) = false := by simpa using h
    clear h
    have K1 : ∀ x : OwnW w [(w.heap.size, 40, #[.int .i64 a.lo, .int .i64 a.hi])], Calls Tryz.prog 97 #[.int .i64 a.lo] x.W (RetV (strV (Lib.itoa a.lo)) x.W) := fun x => I1.out _ (HT.out.below x.own.1)
    have K2 : ∀ x : OwnW w [(w.heap.size, 40, #[.int .i64 a.lo, .int .i64 a.hi])], Calls Tryz.prog 97 #[.int .i64 a.hi] x.W (RetV (strV (Lib.itoa a.hi)) x.W) := fun x => I2.out _ (HT.out.below x.own.1)
    clear I1 I2
    have l1 := Lib.itoa_length_le a.lo ha.1.1 ha.1.2
    have l2 := Lib.itoa_length_le a.hi ha.2.1 ha.2.2
    generalize Lib.itoa a.lo = sl at *
    generalize Lib.itoa a.hi = sh at *
    have c1 : (⟨sl.toArray⟩ : ByteArray) ++ ⟨#[46, 46]⟩ = ⟨(sl ++ [46, 46]).toArray⟩ := ba_append sl [46, 46]
    have c2 := ba_append (sl ++ [46, 46]) sh
    have l3 : ¬ 9223372036854775807 < sl.length + 2 := by omega
    have l4 : ¬ 9223372036854775807 < sl.length + 2 + sh.length := by omega
    clear ha
    have NE : Nonempty (OwnW w [(w.heap.size, 40, #[.int .i64 a.lo, .int .i64 a.hi])]) := ⟨⟨_, X⟩⟩
    have C1 := fun x : OwnW w [(w.heap.size, 40, #[.int .i64 a.lo, .int .i64 a.hi])] => x.own.r1
    go_enter Tryz.func76, Tryz.ntmps76
    go_wp2_with fail
    refine wp_region_own (w := w) (L := [(w.heap.size, 40, #[.int .i64 a.lo, .int .i64 a.hi])]) (by kernel_rfl) (by kernel_rfl) X ?_
    repeat (go_big_quiet_step ((rename_i x; first | exact own_call (K1 _) | exact own_call (K2 _))))
    refine wpQuiet_nil ?_
    rintro _ ⟨⟨W, HX⟩, rfl⟩
    go_wp2
    go_ret
    exact ⟨by rw [E.out]; rfl, HX.1⟩
set_option maxRecDepth 100000 in
set_option maxHeartbeats 1000000 in
theorem Text_any (a : Sp) (w : World) (ht : TxtW w) : Calls Tryz.prog 51 #[a.val] w (RetV (.tuple #[strV (if vB a then txS a else []), .int .i64 (if vB a then 0 else 1)]) w) := by
  have X := (Own.start w).alloc #[.int .i64 a.lo, .int .i64 a.hi] 40
  have HT := hide ht
  have hr := X.r1
  have V := hide (fun W => valid_any a W)
  clear ht
  rcases Bool.eq_false_or_eq_true (vB a) with h | h
  · have T := hide (fun W hW => text_any a W (vB_i64 h) hW)
    rw [h] at V
    rw [h]
    clear h
    go_enter Tryz.func51, Tryz.ntmps51
    go_wp2_with fail
    refine (V.out _).mono ?_
    rintro e w1 ⟨rfl, hb⟩
    replace X := X.to hb
    clear hb hr
    have hr := X.r1
    go_wp2_with fail
    refine (T.out _ (HT.out.below X.1)).mono ?_
    rintro e w2 ⟨rfl, hb⟩
    replace X := X.to hb
    clear hb hr
    have hr := X.r1
    go_wp2
    go_ret2
    exact ⟨rfl, X.1⟩
  · rw [h] at V
    rw [h]
    clear h
    go_enter Tryz.func51, Tryz.ntmps51
    go_wp2_with fail
    refine (V.out _).mono ?_
    rintro e w1 ⟨rfl, hb⟩
    replace X := X.to hb
    clear hb hr
    have hr := X.r1
    go_wp2
    go_ret2
    exact ⟨rfl, X.1⟩
def psR (l : List UInt8) : Sp := if psB l then psS l else Sp.zero
def psE (l : List UInt8) : Int := if psB l then 0 else 7
theorem ps_no {l : List UInt8} (h : psB l = false) : psR l = ⟨0, 0⟩ ∧ psE l = 7 := by unfold psR psE; rw [h]; exact ⟨rfl, rfl⟩
theorem ps_ok {l : List UInt8} (h : psB l = true) : psR l = psS l ∧ psE l = 0 := by unfold psR psE; rw [h]; exact ⟨rfl, rfl⟩
set_option maxRecDepth 100000 in
set_option maxHeartbeats 2000000 in
theorem Parse_any (l : List UInt8) (w : World) (hl : l.length ≤ 4294967280) (ht : TxtW w) : Calls Tryz.prog 45 #[strV l] w (RetSE (psR l) (psE l) w) := by
  have X := (Own.start w).alloc #[.int .i64 0, .int .i64 0] 40
  have HT := hide ht
  have CU := hide (fun W hW => cutLL l [46, 46] W (by omega) hW)
  have cl := cut_len l [46, 46]
  have A1 := hide (fun W hW => atoiL (cutL l) W (by unfold cutL; omega) hW)
  have A2 := hide (fun W hW => atoiL (cutH l) W (by unfold cutH; split <;> omega) hW)
  have V := hide (fun W => valid_any (psS l) W)
  have T := hide (fun W hW => text_any (psS l) W ⟨atV_bd _, atV_bd _⟩ hW)
  have PB : Hid (psB l = (atB (cutL l) && atB (cutH l) && vB (psS l) && decide (txS (psS l) = l))) := hide rfl
  have N := hide (fun h => ps_no (l := l) h)
  have Y := hide (fun h => ps_ok (l := l) h)
  have EH : Hid (((Lib.cut l [46, 46]).2.2 = true → cutH l = (Lib.cut l [46, 46]).2.1) ∧ ((Lib.cut l [46, 46]).2.2 = false → cutH l = cutL l)) := hide ⟨fun h => by unfold cutH; rw [if_pos h], fun h => by unfold cutH; rw [if_neg (by rw [h]; simp)]; rfl⟩
  have eL : (Lib.cut l [46, 46]).1 = cutL l := rfl
  have eS : psS l = ⟨atV (cutL l), atV (cutH l)⟩ := rfl
  rw [eL] at CU
  have bL := atV_bd (cutL l)
  have bH := atV_bd (cutH l)
  clear ht hl cl eL
  rw [eS] at V T PB Y
  clear eS
  generalize atV (cutL l) = x at *
  generalize atV (cutH l) = y at *
  generalize txS ⟨x, y⟩ = tx at *
  generalize vB ⟨x, y⟩ = vv at *
  generalize psB l = pb at *
  generalize psR l = pr at *
  generalize psE l = pe at *
  generalize atB (cutL l) = b1 at *
  generalize atB (cutH l) = b2 at *
  generalize cutL l = sL at *
  generalize cutH l = sH at *
  generalize (Lib.cut l [46, 46]).2.1 = s2 at *
  generalize (Lib.cut l [46, 46]).2.2 = tw at *
  have hr := X.r1
  go_enter Tryz.func45, Tryz.ntmps45
  go_wp2_with fail
  refine (CU.out _ (HT.out.below X.1)).mono ?_
  rintro e w1 ⟨rfl, hb⟩
  replace X := X.to hb
  clear hb hr
  have hr := X.r1
  cases tw
  · obtain rfl := EH.out.2 rfl
    clear EH
    go_wp2_with fail
    refine (A1.out _ (HT.out.below X.1)).mono ?_
    rintro e w2 ⟨⟨ev1, rfl, h1, h2⟩, hb⟩
    replace X := X.to hb
    clear hb hr
    have hr := X.r1
    go_wp2_with fail
    refine (A2.out _ (HT.out.below X.1)).mono ?_
    rintro e w3 ⟨⟨ev2, rfl, k1, k2⟩, hb⟩
    replace X := (X.to hb).alloc #[.int .i64 x, .int .i64 y] 40
    clear hb hr
    have hr := X.r2
    cases b1
    · obtain ⟨te, pe1, rfl⟩ := h2 rfl
      have E := hide (N.out (by rw [PB.out]; simp))
      clear h1 h2 k1 k2
      go_wp2
      exact bodyPost_ret (v := .tuple #[.agg #[.int .i64 0, .int .i64 0], .int .i64 7]) (by simp [results, Tryz.results45, hr, go_sem]) rfl (RetSE.mk (s' := ⟨0, 0⟩) (by have HX := X.1; have hz := HX.size; go_grown) E.out.1 E.out.2)
    obtain rfl := h1 rfl
    cases b2
    · obtain ⟨te, pe1, rfl⟩ := k2 rfl
      have E := hide (N.out (by rw [PB.out]; simp))
      clear h1 h2 k1 k2
      go_wp2
      exact bodyPost_ret (v := .tuple #[.agg #[.int .i64 0, .int .i64 0], .int .i64 7]) (by simp [results, Tryz.results45, hr, go_sem]) rfl (RetSE.mk (s' := ⟨0, 0⟩) (by have HX := X.1; have hz := HX.size; go_grown) E.out.1 E.out.2)
    obtain rfl := k1 rfl
    clear h1 h2 k1 k2
    go_wp2_with fail
    refine (V.out _).mono ?_
    rintro e w4 ⟨rfl, hb⟩
    replace X := X.to hb
    clear hb hr
    have hr := X.r2
    cases vv
    · have E := hide (N.out (by rw [PB.out]; simp))
      go_wp2
      exact bodyPost_ret (v := .tuple #[.agg #[.int .i64 0, .int .i64 0], .int .i64 7]) (by simp [results, Tryz.results45, hr, go_sem]) rfl (RetSE.mk (s' := ⟨0, 0⟩) (by have HX := X.1; have hz := HX.size; go_grown) E.out.1 E.out.2)
    go_wp2_with fail
    refine (T.out _ (HT.out.below X.1)).mono ?_
    rintro e w5 ⟨rfl, hb⟩
    replace X := X.to hb
    clear hb hr
    have hr := X.r2
    by_cases q : tx = l
    · have E := hide (Y.out (by rw [PB.out]; simp [q]))
      have q1 : (tx == l) = true := by simp [q]
      clear q
      go_wp2
      exact bodyPost_ret (v := .tuple #[.agg #[.int .i64 x, .int .i64 y], .int .i64 0]) (by simp [results, Tryz.results45, hr, go_sem]) rfl (RetSE.mk (s' := ⟨x, y⟩) (by have HX := X.1; have hz := HX.size; go_grown) E.out.1 E.out.2)
    · have E := hide (N.out (by rw [PB.out]; simp [q]))
      have q1 : (tx == l) = false := by simp [q]
      clear q
      go_wp2
      exact bodyPost_ret (v := .tuple #[.agg #[.int .i64 0, .int .i64 0], .int .i64 7]) (by simp [results, Tryz.results45, hr, go_sem]) rfl (RetSE.mk (s' := ⟨0, 0⟩) (by have HX := X.1; have hz := HX.size; go_grown) E.out.1 E.out.2)
  · obtain rfl := EH.out.1 rfl
    clear EH
    go_wp2_with fail
    refine (A1.out _ (HT.out.below X.1)).mono ?_
    rintro e w2 ⟨⟨ev1, rfl, h1, h2⟩, hb⟩
    replace X := X.to hb
    clear hb hr
    have hr := X.r1
    go_wp2_with fail
    refine (A2.out _ (HT.out.below X.1)).mono ?_
    rintro e w3 ⟨⟨ev2, rfl, k1, k2⟩, hb⟩
    replace X := (X.to hb).alloc #[.int .i64 x, .int .i64 y] 40
    clear hb hr
    have hr := X.r2
    cases b1
    · obtain ⟨te, pe1, rfl⟩ := h2 rfl
      have E := hide (N.out (by rw [PB.out]; simp))
      clear h1 h2 k1 k2
      go_wp2
      exact bodyPost_ret (v := .tuple #[.agg #[.int .i64 0, .int .i64 0], .int .i64 7]) (by simp [results, Tryz.results45, hr, go_sem]) rfl (RetSE.mk (s' := ⟨0, 0⟩) (by have HX := X.1; have hz := HX.size; go_grown) E.out.1 E.out.2)
    obtain rfl := h1 rfl
    cases b2
    · obtain ⟨te, pe1, rfl⟩ := k2 rfl
      have E := hide (N.out (by rw [PB.out]; simp))
      clear h1 h2 k1 k2
      go_wp2
      exact bodyPost_ret (v := .tuple #[.agg #[.int .i64 0, .int .i64 0], .int .i64 7]) (by simp [results, Tryz.results45, hr, go_sem]) rfl (RetSE.mk (s' := ⟨0, 0⟩) (by have HX := X.1; have hz := HX.size; go_grown) E.out.1 E.out.2)
    obtain rfl := k1 rfl
    clear h1 h2 k1 k2
    go_wp2_with fail
    refine (V.out _).mono ?_
    rintro e w4 ⟨rfl, hb⟩
    replace X := X.to hb
    clear hb hr
    have hr := X.r2
    cases vv
    · have E := hide (N.out (by rw [PB.out]; simp))
      go_wp2
      exact bodyPost_ret (v := .tuple #[.agg #[.int .i64 0, .int .i64 0], .int .i64 7]) (by simp [results, Tryz.results45, hr, go_sem]) rfl (RetSE.mk (s' := ⟨0, 0⟩) (by have HX := X.1; have hz := HX.size; go_grown) E.out.1 E.out.2)
    go_wp2_with fail
    refine (T.out _ (HT.out.below X.1)).mono ?_
    rintro e w5 ⟨rfl, hb⟩
    replace X := X.to hb
    clear hb hr
    have hr := X.r2
    by_cases q : tx = l
    · have E := hide (Y.out (by rw [PB.out]; simp [q]))
      have q1 : (tx == l) = true := by simp [q]
      clear q
      go_wp2
      exact bodyPost_ret (v := .tuple #[.agg #[.int .i64 x, .int .i64 y], .int .i64 0]) (by simp [results, Tryz.results45, hr, go_sem]) rfl (RetSE.mk (s' := ⟨x, y⟩) (by have HX := X.1; have hz := HX.size; go_grown) E.out.1 E.out.2)
    · have E := hide (N.out (by rw [PB.out]; simp [q]))
      have q1 : (tx == l) = false := by simp [q]
      clear q
      go_wp2
      exact bodyPost_ret (v := .tuple #[.agg #[.int .i64 0, .int .i64 0], .int .i64 7]) (by simp [results, Tryz.results45, hr, go_sem]) rfl (RetSE.mk (s' := ⟨0, 0⟩) (by have HX := X.1; have hz := HX.size; go_grown) E.out.1 E.out.2)
end Go.Proofs.YtlnlaopokelggaaGreatDoor

namespace Go.Proofs.YtlnlaopokelggaaGreatDoor
open Go.RowKit

theorem calls_se {f : Nat} {args : Array Value} {w : World} {s t : Sp} {er er' : Int} (h : Calls Tryz.prog f args w (RetSE s er w)) (h1 : s = t) (h2 : er = er') : Calls Tryz.prog f args w (RetSE t er' w) := by subst h1 h2; exact h
set_option maxHeartbeats 400000 in
theorem rvalid_any (a : Sp) (w : World) : Calls Tryz.prog 79 #[a.val] w fun e w' => e = .returned (.bool (vB a)) ∧ Below w.heap.size w w' := by
  rcases Int.lt_or_le a.hi a.lo with h1 | h1
  · have V : Hid (vB a = false) := hide (by have : ¬ a.lo ≤ a.hi := by omega
                                            simp [vB, this])
    go_enter Tryz.func79, Tryz.ntmps79
    go_wp2
    go_ret
    exact ⟨ret_bool (by first | exact V.out.symm | (rw [V.out]; simp; omega)), by go_grown⟩
  rcases Int.lt_or_le a.lo (-72057594037927936) with h2 | h2
  · have V : Hid (vB a = false) := hide (by have : fitB a.lo = false := fitB_not.2 (.inl h2)
                                            simp [vB, this])
    go_enter Tryz.func79, Tryz.ntmps79
    go_wp2
    go_ret
    exact ⟨ret_bool (by first | exact V.out.symm | (rw [V.out]; simp; omega)), by go_grown⟩
  rcases Int.lt_or_le 72057594037927936 a.hi with h3 | h3
  · have V : Hid (vB a = false) := hide (by have : fitB a.hi = false := fitB_not.2 (.inr h3)
                                            simp [vB, this])
    go_enter Tryz.func79, Tryz.ntmps79
    go_wp2
    go_ret
    exact ⟨ret_bool (by first | exact V.out.symm | (rw [V.out]; simp; omega)), by go_grown⟩
  · have V : Hid (vB a = true) := hide (vB_iff.2 ⟨h1, h2, h3⟩)
    go_enter Tryz.func79, Tryz.ntmps79
    go_wp2
    go_ret
    exact ⟨ret_bool (by first | exact V.out.symm | (rw [V.out]; simp; omega)), by go_grown⟩
end Go.Proofs.YtlnlaopokelggaaGreatDoor

namespace Go.Proofs.YtlnlaopokelggaaGreatDoor
open Go Go.RowKit

def decK (k : Int) : List UInt8 := if k = 0 then [] else Lib.decDigits k.natAbs
theorem decK_step {k q : Int} {d : Nat} (hk : k ≠ 0) (hq : k.tdiv 10 = q) (hd : (k.tmod 10).natAbs = d) : decK k = decK q ++ [UInt8.ofNat (48 + d)] ∧ d < 10 := by
  have e1 : q.natAbs = k.natAbs / 10 := by rw [← hq, Int.natAbs_tdiv]; rfl
  have e2 : d = k.natAbs % 10 := by rw [← hd, Int.natAbs_tmod]; rfl
  refine ⟨?_, by omega⟩
  unfold decK
  rw [if_neg hk]
  by_cases h : k.natAbs < 10
  · rw [if_pos (by omega), dec_small h, e2, Nat.mod_eq_of_lt h]; rfl
  · rw [if_neg (by omega), dec_big h, e1, e2]
theorem byte_conv (d : Nat) (hd : d < 10) (W : World) : (convert 67 9 (.slice (some ⟨W.heap.size, 0, none⟩) 1 1)).run Tryz.prog (W.alloc (.cells #[.int .u8 (48 + (d : Int))] 5)) = .ok (strV [UInt8.ofNat (48 + d)]) (W.alloc (.cells #[.int .u8 (48 + (d : Int))] 5)) := by
  have h := run_convert_bytes_back (P := Tryz.prog) (W.alloc (.cells #[.int .u8 (48 + (d : Int))] 5)) 67 9 5 ⟨W.heap.size, 0, none⟩ 1 [UInt8.ofNat (48 + d)] Tryz.underlying67 Tryz.underlying5 Tryz.underlying9 (fun j hj => by
    obtain rfl : j = 0 := by simpa using hj
    have B := Blk.new W 5 #[.int .u8 (48 + (d : Int))]
    have c := B.cell 0
    show (W.alloc _).cell? ⟨W.heap.size, 0, none⟩ = _
    rw [c]
    show some (Value.int .u8 (48 + (d : Int))) = some (Value.int .u8 (((UInt8.ofNat (48 + d)).toNat : Nat) : Int))
    rw [dgN hd]
    rfl)
  exact h
set_option maxRecDepth 100000 in
set_option maxHeartbeats 2000000 in
theorem rdec_any (n : Int) (w : World) (h1 : -9223372036854775808 ≤ n) (h2 : n ≤ 9223372036854775807) : Calls Tryz.prog 29 #[.int .i64 n] w (RetV (strV (Lib.itoa n)) w) := by
  by_cases h0 : n = 0
  · subst h0
    go_enter Tryz.func29, Tryz.ntmps29
    go_wp2
    go_ret
    exact ⟨by rw [show Lib.itoa 0 = [48] by decide +kernel]; rfl, Below.refl _ _⟩
  have e0 : (n == 0) = false := by simpa using h0
  have LEN := Lib.itoa_length_le n h1 h2
  have LD : (Lib.decDigits n.natAbs).length ≤ 21 := by
    by_cases hn : n < 0
    · rw [itoa_neg hn, List.length_cons] at LEN; omega
    · rw [itoa_pos (by omega), show n.toNat = n.natAbs by omega] at LEN; omega
  have ST := hide (show Lib.decDigits n.natAbs = decK n ++ [] by unfold decK; rw [if_neg h0, List.append_nil])
  have FN := hide (fun (out : List UInt8) (h : Lib.decDigits n.natAbs = decK 0 ++ out) => (show Lib.itoa n = if n < 0 then 45 :: out else out by
    have e : out = Lib.decDigits n.natAbs := by rw [h]; rfl
    by_cases hn : n < 0
    · rw [if_pos hn, itoa_neg hn, e]
    · rw [if_neg hn, itoa_pos (by omega), e, show n.toNat = n.natAbs by omega]))
  clear LEN h0
  generalize hD : Lib.decDigits n.natAbs = D at *
  clear hD
  go_enter Tryz.func29, Tryz.ntmps29
  go_wp2
  go_loopw [3, 4] (fun v3 v4 wr => ∃ (out : List UInt8) (k : Int), v3 = strV out ∧ v4 = .int .i64 k ∧ -9223372036854775808 ≤ k ∧ k ≤ 9223372036854775807 ∧ Hid (Below w.heap.size w wr) ∧ Hid (D = decK k ++ out)) (fun _ v4 _ => (intOf v4).natAbs)
  case atStart => exact ⟨[], n, rfl, rfl, h1, h2, hide (Below.refl _ _), ST⟩
  case round =>
    obtain ⟨out, k, rfl, rfl, k1, k2, HB, HD⟩ := hrel
    by_cases hk : k = 0
    · subst hk
      have E := hide (FN.out out HD.out)
      have ol : out.length ≤ 21 := by have := congrArg List.length HD.out; rw [List.length_append] at this; omega
      have l1 : ¬ 9223372036854775807 < 1 + out.length := by omega
      have c1 : (⟨#[45]⟩ : ByteArray) ++ ⟨out.toArray⟩ = ⟨(45 :: out).toArray⟩ := ba_append [45] out
      clear HD ol
      by_cases hn : n < 0
      · have hnd : decide (n < 0) = true := decide_eq_true hn
        go_wp2
        go_ret
        exact ⟨by rw [E.out, if_pos hn]; rfl, HB.out⟩
      · have hnd : decide (n < 0) = false := decide_eq_false hn
        go_wp2
        go_ret
        exact ⟨by rw [E.out, if_neg (by omega)]; rfl, HB.out⟩
    · have z0 : (k == 0) = false := by simpa using hk
      obtain ⟨q, hq⟩ : ∃ q, k.tdiv 10 = q := ⟨_, rfl⟩
      obtain ⟨r, hr⟩ : ∃ r, k.tmod 10 = r := ⟨_, rfl⟩
      have ol : out.length ≤ 21 := by have := congrArg List.length HD.out; rw [List.length_append] at this; omega
      have qb : -9223372036854775808 ≤ q ∧ q ≤ 9223372036854775807 ∧ q.natAbs < k.natAbs := by
        have : q.natAbs = k.natAbs / 10 := by rw [← hq, Int.natAbs_tdiv]; rfl
        omega
      obtain ⟨e1, e2⟩ := decK_step hk hq (d := r.natAbs) (by rw [hr])
      have HD2 : Hid (D = decK q ++ (UInt8.ofNat (48 + r.natAbs) :: out)) := hide (by rw [HD.out, e1]; simp)
      have l1 : ¬ 9223372036854775807 < 1 + out.length := by omega
      have HB2 := hide (fun o => HB.out.alloc HB.out.size o)
      clear HD e1 hk ol
      by_cases rn : r < 0
      · obtain ⟨d, rfl⟩ : ∃ d : Nat, r = -(d : Int) := ⟨r.natAbs, by omega⟩
        rw [Int.natAbs_neg, Int.natAbs_natCast] at HD2 e2
        have dr : decide (-(d : Int) < 0) = true := decide_eq_true rn
        have d0 : 0 < d := by omega
        have d00 : decide (0 < d) = true := decide_eq_true d0
        have CV := byte_conv d e2 wr
        generalize UInt8.ofNat (48 + d) = B at *
        have c1 : (⟨#[B]⟩ : ByteArray) ++ ⟨out.toArray⟩ = ⟨(B :: out).toArray⟩ := ba_append [B] out
        clear rn
        go_wp2
        go_roundw
        case rel => exact ⟨B :: out, q, rfl, rfl, qb.1, qb.2.1, hide (HB2.out _), HD2⟩
        case measure => simp [intOf]; omega
      · obtain ⟨d, rfl⟩ : ∃ d : Nat, r = (d : Int) := ⟨r.natAbs, by omega⟩
        rw [Int.natAbs_natCast] at HD2 e2
        have dr : decide ((d : Int) < 0) = false := decide_eq_false rn
        have CV := byte_conv d e2 wr
        generalize UInt8.ofNat (48 + d) = B at *
        have c1 : (⟨#[B]⟩ : ByteArray) ++ ⟨out.toArray⟩ = ⟨(B :: out).toArray⟩ := ba_append [B] out
        clear rn
        go_wp2
        go_roundw
        case rel => exact ⟨B :: out, q, rfl, rfl, qb.1, qb.2.1, hide (HB2.out _), HD2⟩
        case measure => simp [intOf]; omega
end Go.Proofs.YtlnlaopokelggaaGreatDoor
