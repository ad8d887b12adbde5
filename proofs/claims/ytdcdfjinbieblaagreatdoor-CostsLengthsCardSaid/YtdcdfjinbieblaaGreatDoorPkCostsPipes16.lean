/- Parts of one proof, joined: Networks and catalogues, plain: tables of knots, nodes, links, sections in memory; when each is right; the places of names. What the proofs of rows with listed variables import, under one name. Networks and catalogues as arguments: what a reading of them gives. (Printed by gen_nwr.py.). -/
import Derived.Test.YtdcdfjinbieblaaGreatDoorPkCostsPipes14
import Derived.Test.YtdcdfjinbieblaaGreatDoorPkCostsPipes7
import Derived.ProofKit
import Derived.LaidMore
import Derived.OpenShut
import Derived.Stop.Joined
import Derived.SevenTiedAt
namespace Go.Proofs.YtdcdfjinbieblaaGreatDoor
open Go Go.RowKit

structure Knt where
  x : Int
  y : Int
deriving DecidableEq, Inhabited
abbrev Knt.val (k : Knt) : Value := .agg #[.int .i64 k.x, .int .i64 k.y]
def KntAt (w : World) (b o : Nat) (k : Knt) : Prop := w.cell? ⟨b, o, none⟩ = some (.int .i64 k.x) ∧ w.cell? ⟨b, o + 1, none⟩ = some (.int .i64 k.y)
/-- a slice of knots that reads as a list -/
def KnSl (w : World) (A : Option Addr) (l : List Knt) : Prop :=
  l.length ≤ maxLen ∧ (0 < l.length → ∃ b off, A = some ⟨b, off, none⟩ ∧ b < w.heap.size ∧ ∀ i (h : i < l.length), KntAt w b (off + i * 2) l[i])
theorem KnSl.below {w w' : World} {A : Option Addr} {l : List Knt} (h : KnSl w A l) (hb : Below w.heap.size w w') : KnSl w' A l :=
  ⟨h.1, fun hl => by
    obtain ⟨b, off, e, hlt, hat⟩ := h.2 hl
    have k := fun (i : Nat) => hb.cell (p := ⟨b, i, none⟩) hlt
    exact ⟨b, off, e, Nat.lt_of_lt_of_le hlt hb.size, fun i hi => ⟨(k _).trans (hat i hi).1, (k _).trans (hat i hi).2⟩⟩⟩
/-- a table as an argument: its list, its place, its capacity -/
structure Tbl where
  l : List Knt
  A : Option Addr
  c : Nat
abbrev Tbl.val (t : Tbl) : Value := .slice t.A t.l.length t.c
structure Nod where
  nm : ByteArray
  kd : Int
  x : Int
  y : Int
  iv : Int
  gr : Int
  sh : Tbl
  pro : Bool
  re : Int
abbrev Nod.val (n : Nod) : Value := .agg #[.string n.nm, .int .i64 n.kd, .int .i64 n.x, .int .i64 n.y, .int .i64 n.iv, .int .i64 n.gr, .slice n.sh.A n.sh.l.length n.sh.c, .bool n.pro, .int .i64 n.re]
structure NodAt (w : World) (b o : Nat) (n : Nod) : Prop where
  c0 : w.cell? ⟨b, o, none⟩ = some (.string n.nm)
  c1 : w.cell? ⟨b, o + 1, none⟩ = some (.int .i64 n.kd)
  c2 : w.cell? ⟨b, o + 2, none⟩ = some (.int .i64 n.x)
  c3 : w.cell? ⟨b, o + 3, none⟩ = some (.int .i64 n.y)
  c4 : w.cell? ⟨b, o + 4, none⟩ = some (.int .i64 n.iv)
  c5 : w.cell? ⟨b, o + 5, none⟩ = some (.int .i64 n.gr)
  c6 : w.cell? ⟨b, o + 6, none⟩ = some (.slice n.sh.A n.sh.l.length n.sh.c)
  c7 : w.cell? ⟨b, o + 7, none⟩ = some (.bool n.pro)
  c8 : w.cell? ⟨b, o + 8, none⟩ = some (.int .i64 n.re)
theorem NodAt.below {w w' : World} {b o : Nat} {n : Nod} (h : NodAt w b o n) (hb : Below w.heap.size w w') (hl : b < w.heap.size) : NodAt w' b o n := by
  have k := fun (i : Nat) => hb.cell (p := ⟨b, i, none⟩) hl
  exact ⟨(k _).trans h.c0, (k _).trans h.c1, (k _).trans h.c2, (k _).trans h.c3, (k _).trans h.c4, (k _).trans h.c5, (k _).trans h.c6, (k _).trans h.c7, (k _).trans h.c8⟩
def NodSl (w : World) (A : Option Addr) (l : List Nod) : Prop :=
  (l.length ≤ maxLen ∧ ∀ i (h : i < l.length), l[i].nm.size ≤ maxLen ∧ KnSl w l[i].sh.A l[i].sh.l) ∧ (0 < l.length → ∃ b off, A = some ⟨b, off, none⟩ ∧ b < w.heap.size ∧ ∀ i (h : i < l.length), NodAt w b (off + i * 9) l[i])
theorem NodSl.below {w w' : World} {A : Option Addr} {l : List Nod} (h : NodSl w A l) (hb : Below w.heap.size w w') : NodSl w' A l :=
  ⟨⟨h.1.1, fun i hi => ⟨(h.1.2 i hi).1, (h.1.2 i hi).2.below hb⟩⟩, fun hl => by
    obtain ⟨b, off, e, hlt, hat⟩ := h.2 hl
    exact ⟨b, off, e, Nat.lt_of_lt_of_le hlt hb.size, fun i hi => (hat i hi).below hb hlt⟩⟩
structure Lnk where
  nm : ByteArray
  fr : ByteArray
  tn : ByteArray
  kd : Int
  le : Int
  up : Int
  dn : Int
  se : ByteArray
  wi : Int
  he : Int
  cu : Tbl
abbrev Lnk.val (n : Lnk) : Value := .agg #[.string n.nm, .string n.fr, .string n.tn, .int .i64 n.kd, .int .i64 n.le, .int .i64 n.up, .int .i64 n.dn, .string n.se, .int .i64 n.wi, .int .i64 n.he, .slice n.cu.A n.cu.l.length n.cu.c]
structure LnkAt (w : World) (b o : Nat) (n : Lnk) : Prop where
  c0 : w.cell? ⟨b, o, none⟩ = some (.string n.nm)
  c1 : w.cell? ⟨b, o + 1, none⟩ = some (.string n.fr)
  c2 : w.cell? ⟨b, o + 2, none⟩ = some (.string n.tn)
  c3 : w.cell? ⟨b, o + 3, none⟩ = some (.int .i64 n.kd)
  c4 : w.cell? ⟨b, o + 4, none⟩ = some (.int .i64 n.le)
  c5 : w.cell? ⟨b, o + 5, none⟩ = some (.int .i64 n.up)
  c6 : w.cell? ⟨b, o + 6, none⟩ = some (.int .i64 n.dn)
  c7 : w.cell? ⟨b, o + 7, none⟩ = some (.string n.se)
  c8 : w.cell? ⟨b, o + 8, none⟩ = some (.int .i64 n.wi)
  c9 : w.cell? ⟨b, o + 9, none⟩ = some (.int .i64 n.he)
  ca : w.cell? ⟨b, o + 10, none⟩ = some (.slice n.cu.A n.cu.l.length n.cu.c)
theorem LnkAt.below {w w' : World} {b o : Nat} {n : Lnk} (h : LnkAt w b o n) (hb : Below w.heap.size w w') (hl : b < w.heap.size) : LnkAt w' b o n := by
  have k := fun (i : Nat) => hb.cell (p := ⟨b, i, none⟩) hl
  exact ⟨(k _).trans h.c0, (k _).trans h.c1, (k _).trans h.c2, (k _).trans h.c3, (k _).trans h.c4, (k _).trans h.c5, (k _).trans h.c6, (k _).trans h.c7, (k _).trans h.c8, (k _).trans h.c9, (k _).trans h.ca⟩
def LnkSl (w : World) (A : Option Addr) (l : List Lnk) : Prop :=
  (l.length ≤ maxLen ∧ ∀ i (h : i < l.length), (l[i].nm.size ≤ maxLen ∧ l[i].fr.size ≤ maxLen ∧ l[i].tn.size ≤ maxLen ∧ l[i].se.size ≤ maxLen) ∧ KnSl w l[i].cu.A l[i].cu.l) ∧ (0 < l.length → ∃ b off, A = some ⟨b, off, none⟩ ∧ b < w.heap.size ∧ ∀ i (h : i < l.length), LnkAt w b (off + i * 11) l[i])
theorem LnkSl.below {w w' : World} {A : Option Addr} {l : List Lnk} (h : LnkSl w A l) (hb : Below w.heap.size w w') : LnkSl w' A l :=
  ⟨⟨h.1.1, fun i hi => ⟨(h.1.2 i hi).1, (h.1.2 i hi).2.below hb⟩⟩, fun hl => by
    obtain ⟨b, off, e, hlt, hat⟩ := h.2 hl
    exact ⟨b, off, e, Nat.lt_of_lt_of_le hlt hb.size, fun i hi => (hat i hi).below hb hlt⟩⟩
structure Sec where
  nm : ByteArray
  he : Int
  pr : Int
  ar : Tbl
  cv : Tbl
abbrev Sec.val (n : Sec) : Value := .agg #[.string n.nm, .int .i64 n.he, .int .i64 n.pr, .slice n.ar.A n.ar.l.length n.ar.c, .slice n.cv.A n.cv.l.length n.cv.c]
structure SecAt (w : World) (b o : Nat) (n : Sec) : Prop where
  c0 : w.cell? ⟨b, o, none⟩ = some (.string n.nm)
  c1 : w.cell? ⟨b, o + 1, none⟩ = some (.int .i64 n.he)
  c2 : w.cell? ⟨b, o + 2, none⟩ = some (.int .i64 n.pr)
  c3 : w.cell? ⟨b, o + 3, none⟩ = some (.slice n.ar.A n.ar.l.length n.ar.c)
  c4 : w.cell? ⟨b, o + 4, none⟩ = some (.slice n.cv.A n.cv.l.length n.cv.c)
theorem SecAt.below {w w' : World} {b o : Nat} {n : Sec} (h : SecAt w b o n) (hb : Below w.heap.size w w') (hl : b < w.heap.size) : SecAt w' b o n := by
  have k := fun (i : Nat) => hb.cell (p := ⟨b, i, none⟩) hl
  exact ⟨(k _).trans h.c0, (k _).trans h.c1, (k _).trans h.c2, (k _).trans h.c3, (k _).trans h.c4⟩
def SecSl (w : World) (A : Option Addr) (l : List Sec) : Prop :=
  (l.length ≤ maxLen ∧ ∀ i (h : i < l.length), l[i].nm.size ≤ maxLen ∧ KnSl w l[i].ar.A l[i].ar.l ∧ KnSl w l[i].cv.A l[i].cv.l) ∧ (0 < l.length → ∃ b off, A = some ⟨b, off, none⟩ ∧ b < w.heap.size ∧ ∀ i (h : i < l.length), SecAt w b (off + i * 5) l[i])
theorem SecSl.below {w w' : World} {A : Option Addr} {l : List Sec} (h : SecSl w A l) (hb : Below w.heap.size w w') : SecSl w' A l :=
  ⟨⟨h.1.1, fun i hi => ⟨(h.1.2 i hi).1, (h.1.2 i hi).2.1.below hb, (h.1.2 i hi).2.2.below hb⟩⟩, fun hl => by
    obtain ⟨b, off, e, hlt, hat⟩ := h.2 hl
    exact ⟨b, off, e, Nat.lt_of_lt_of_le hlt hb.size, fun i hi => (hat i hi).below hb hlt⟩⟩
/-- a number lies from lo to hi -/
def inB (lo hi n : Int) : Bool := decide (lo ≤ n) && decide (n ≤ hi)
def knB (t : List Knt) (i : Nat) : Bool :=
  (inB (-1125899906842624) 1125899906842624 (t.getD i ⟨0, 0⟩).x && inB (-1125899906842624) 1125899906842624 (t.getD i ⟨0, 0⟩).y) &&
    (decide (i = 0) || (decide ((t.getD (i - 1) ⟨0, 0⟩).x < (t.getD i ⟨0, 0⟩).x) && decide ((t.getD (i - 1) ⟨0, 0⟩).y ≤ (t.getD i ⟨0, 0⟩).y)))
/-- a table is valid -/
def vKn (t : List Knt) : Bool := (decide (1 ≤ t.length) && decide (t.length ≤ 100)) && (List.range t.length).all (knB t)
theorem vKn_iff {t : List Knt} : vKn t = true ↔ (1 ≤ t.length ∧ t.length ≤ 100) ∧ ∀ i, i < t.length → knB t i = true := by
  unfold vKn; simp [List.all_eq_true]
theorem vKn_bad {t : List Knt} {k : Nat} (hk : k < t.length) (h : knB t k = false) : vKn t = false := by
  cases e : vKn t with
  | false => rfl
  | true => rw [(vKn_iff.1 e).2 k hk] at h; cases h
theorem vKn_len {t : List Knt} (h : t.length < 1 ∨ 100 < t.length) : vKn t = false := by
  cases e : vKn t with
  | false => rfl
  | true => have := (vKn_iff.1 e).1; omega
/-- a table begins at nothing, and ends at a depth with at most a volume -/
def shpB (t : List Knt) (d most : Int) : Bool := vKn t && (decide ((t.getD 0 ⟨0, 0⟩).x = 0) && decide ((t.getD 0 ⟨0, 0⟩).y = 0)) && (decide ((t.getD (t.length - 1) ⟨0, 0⟩).x = d) && decide ((t.getD (t.length - 1) ⟨0, 0⟩).y ≤ most))
def nodB (n : Nod) : Bool :=
  nameB n.nm.data.toList && inB (-16777216) 16777216 n.x && inB (-16777216) 16777216 n.y && inB (-4194304) 4194304 n.iv && inB (-4194304) 4194304 n.gr &&
    (if n.kd = 3 then decide (n.iv ≤ n.gr) && decide (n.sh.l.length = 0) && !n.pro && decide (n.re = 0)
     else if n.kd = 1 ∨ n.kd = 2 then decide (n.iv < n.gr) && shpB n.sh.l (n.gr - n.iv) 1125899906842624 && (if n.pro then decide (n.kd = 2) && inB 0 (n.sh.l.getD (n.sh.l.length - 1) ⟨0, 0⟩).y n.re else decide (n.re = 0))
     else false)
def curB (t : List Knt) : Bool := vKn t && (decide (0 ≤ (t.getD 0 ⟨0, 0⟩).x) && decide ((t.getD (t.length - 1) ⟨0, 0⟩).x ≤ 4194304)) && (decide (0 ≤ (t.getD 0 ⟨0, 0⟩).y) && decide ((t.getD (t.length - 1) ⟨0, 0⟩).y ≤ 1099511627776))
def lnkB (l : Lnk) : Bool :=
  nameB l.nm.data.toList && nameB l.fr.data.toList && nameB l.tn.data.toList && !(l.fr.toList == l.tn.toList) && inB (-4194304) 4194304 l.up && inB (-4194304) 4194304 l.dn &&
    (if l.kd = 1 then inB 1 16777216 l.le && nameB l.se.data.toList && decide (l.wi = 0) && decide (l.he = 0) && decide (l.cu.l.length = 0)
     else if l.kd = 2 then decide (l.le = 0) && decide (l.dn = 0) && decide (l.se.size = 0) && inB 1 1048576 l.wi && decide (l.he = 0) && decide (l.cu.l.length = 0)
     else if l.kd = 3 then decide (l.le = 0) && decide (l.dn = 0) && decide (l.se.size = 0) && inB 1 32768 l.wi && inB 1 32768 l.he && decide (l.cu.l.length = 0)
     else if l.kd = 4 then decide (l.le = 0) && decide (l.dn < l.up) && decide (l.se.size = 0) && decide (l.wi = 0) && decide (l.he = 0) && curB l.cu.l
     else false)
def secB (s : Sec) : Bool := nameB s.nm.data.toList && inB 1 32768 s.he && inB 0 1073741824 s.pr && shpB s.ar.l s.he 1073741824 && shpB s.cv.l s.he 1099511627776
/-- the place of the first that is as asked; -1 if there is none -/
def ixB {α : Type} (p : α → Bool) (l : List α) : Int := match l.findIdx? p with | some i => (i : Int) | none => -1
def ndIx (l : List Nod) (s : ByteArray) : Int := ixB (fun x => x.nm.toList == s.toList) l
def lkIx (l : List Lnk) (s : ByteArray) : Int := ixB (fun x => x.nm.toList == s.toList) l
def seIx (l : List Sec) (s : ByteArray) : Int := ixB (fun x => x.nm.toList == s.toList) l
theorem ixB_no {α : Type} {p : α → Bool} {l : List α} (h : ∀ i (hi : i < l.length), p l[i] = false) : ixB p l = -1 := by
  have : l.findIdx? p = none := by
    rw [List.findIdx?_eq_none_iff]
    intro x hx
    obtain ⟨i, hi, rfl⟩ := List.mem_iff_getElem.1 hx
    exact h i hi
  simp [ixB, this]
theorem ixB_yes {α : Type} {p : α → Bool} {l : List α} {k : Nat} (hk : k < l.length) (h : ∀ i (hi : i < l.length), i < k → p l[i] = false) (hy : p l[k] = true) : ixB p l = k := by
  have : l.findIdx? p = some k := by
    rw [List.findIdx?_eq_some_iff_getElem]
    exact ⟨hk, hy, fun j hj => by rw [h j (by omega) hj]; simp⟩
  simp [ixB, this]
def nodOk (nl : List Nod) (i : Nat) : Bool := match nl[i]? with | some x => nodB x && decide (ndIx nl x.nm = i) | none => false
def lnkOk (nl : List Nod) (ll : List Lnk) (i : Nat) : Bool :=
  match ll[i]? with
  | some x => lnkB x && decide (lkIx ll x.nm = i) && decide (0 ≤ ndIx nl x.tn) && (decide (0 ≤ ndIx nl x.fr) && match nl[(ndIx nl x.fr).toNat]? with | some y => !decide (y.kd = 3) | none => false)
  | none => false
/-- a network is valid -/
def vNet (nl : List Nod) (ll : List Lnk) : Bool := (decide (nl.length ≤ 300) && decide (ll.length ≤ 400)) && ((List.range nl.length).all (nodOk nl) && (List.range ll.length).all (lnkOk nl ll))
def secOk (sl : List Sec) (i : Nat) : Bool := match sl[i]? with | some x => secB x && decide (seIx sl x.nm = i) | none => false
/-- a catalogue is valid -/
def vCat (sl : List Sec) : Bool := decide (sl.length ≤ 40) && (List.range sl.length).all (secOk sl)
end Go.Proofs.YtdcdfjinbieblaaGreatDoor

namespace Go.Proofs.YtdcdfjinbieblaaGreatDoor
open Go Go.RowKit
theorem i64_of_wf {n : Int} (h : (Lit.int .i64 n).wf = true) : -9223372036854775808 ≤ n ∧ n ≤ 9223372036854775807 := by
  simpa [Lit.wf, IntKind.min, IntKind.max, IntKind.signed, IntKind.bits] using h
theorem u32_of_wf {n : Int} (h : (Lit.int .u32 n).wf = true) : 0 ≤ n ∧ n ≤ 4294967295 := by
  simpa [Lit.wf, IntKind.min, IntKind.max, IntKind.signed, IntKind.bits] using h
end Go.Proofs.YtdcdfjinbieblaaGreatDoor

namespace Go.Proofs.YtdcdfjinbieblaaGreatDoor
open Go.RowKit Go.ChangeShapes Go.WideShapes Go.ChangeAt

theorem listN_of {α : Type} {P : Nat → α → Prop} : ∀ (n : Nat), (∀ i, i < n → ∃ x, P i x) → ∃ l : List α, l.length = n ∧ ∀ i (h : i < l.length), P i l[i]
  | 0, _ => ⟨[], rfl, fun i h => by simp at h⟩
  | n + 1, h => by
    obtain ⟨l, hl, hp⟩ := listN_of n (fun i hi => h i (by omega))
    obtain ⟨x, hx⟩ := h n (by omega)
    refine ⟨l ++ [x], by simp [hl], fun i hi => ?_⟩
    by_cases k : i < l.length
    · rw [List.getElem_append_left k]; exact hp i k
    · have e : i = n := by simp at hi; omega
      subst e
      subst hl
      simpa using hx
section
variable {H : Type} {enc : TypeId × Value → H} {W : World} {v : Value} {d : DataW H} {p : List MemPlace} {b0 : Nat}
theorem addN_plain (b off n : Nat) : (⟨b, off, none⟩ : Addr).add n = ⟨b, off + n, none⟩ := by
  unfold Addr.add; split <;> simp_all
theorem open_cellKn {k : Nat} {y : DataW H × List MemPlace} {v : Value} (hf : DataW.trod enc Tryz.prog W 0 (fun _ => true) true k 48 [v] = some y) : ∃ A cap l, v = .slice A (List.length l) cap ∧ KnSl W A l := by
  rcases open_slice_fields Tryz.underlying48 Tryz.underlying121 (by kernel_rfl) (by kernel_rfl) hf with ⟨hcs, _⟩ | ⟨a, len', cap', m, D, Pl, hcs, _, hl, hm, hmm, _, hat⟩
  · simp only [List.cons.injEq, and_true] at hcs
    subst hcs
    exact ⟨none, 0, [], rfl, ⟨by simp, fun h => by simp at h⟩⟩
  · simp only [List.cons.injEq, and_true] at hcs
    subst hcs
    simp only [if_true] at hmm
    subst hmm
    have hex : ∀ i, i < len' → ∃ x : Knt, (True) ∧ W.cell? (a.add (i * 2 + 0)) = some (.int .i64 x.x) ∧ W.cell? (a.add (i * 2 + 1)) = some (.int .i64 x.y) := fun i hi => by
      obtain ⟨ys, n, _, _, _, hf⟩ := hat i (by omega)
      obtain ⟨v0, y0, hc0, _, ht0⟩ := hf 0 _ rfl
      obtain ⟨v1, y1, hc1, _, ht1⟩ := hf 1 _ rfl
      obtain ⟨x0, e0, _⟩ := DataW.trod_int Tryz.underlying3 ht0
      obtain ⟨x1, e1, _⟩ := DataW.trod_int Tryz.underlying3 ht1
      simp only [List.cons.injEq, and_true] at e0 e1
      subst e0 e1
      exact ⟨⟨x0, x1⟩, trivial, hc0, hc1⟩
    obtain ⟨l, hlen, hl'⟩ := listN_of len' hex
    refine ⟨some a, m, l, by rw [hlen], by omega, fun h0 => ?_⟩
    obtain ⟨b, off, spot⟩ := a
    have hspot : spot = none := by simpa [Addr.add] using World.cell?_spot (hl' 0 h0).2.1
    subst hspot
    simp only [addN_plain] at hl'
    refine ⟨b, off, rfl, lt_of_cell (p := ⟨b, off + (0 * 2 + 0), none⟩) (hl' 0 h0).2.1, fun i hi => ?_⟩
    obtain ⟨_, k0, k1⟩ := hl' i hi
    exact ⟨by simpa [Nat.add_assoc] using k0, by simpa [Nat.add_assoc] using k1⟩
theorem open_cellLnk {k : Nat} {y : DataW H × List MemPlace} {v : Value} (hf : DataW.trod enc Tryz.prog W 0 (fun _ => true) true k 23 [v] = some y) : ∃ A cap l, v = .slice A (List.length l) cap ∧ LnkSl W A l := by
  rcases open_slice_fields Tryz.underlying23 Tryz.underlying50 (by kernel_rfl) (by kernel_rfl) hf with ⟨hcs, _⟩ | ⟨a, len', cap', m, D, Pl, hcs, _, hl, hm, hmm, _, hat⟩
  · simp only [List.cons.injEq, and_true] at hcs
    subst hcs
    exact ⟨none, 0, [], rfl, ⟨by simp, fun i h => by simp at h⟩, fun h => by simp at h⟩
  · simp only [List.cons.injEq, and_true] at hcs
    subst hcs
    simp only [if_true] at hmm
    subst hmm
    have hex : ∀ i, i < len' → ∃ x : Lnk, ((x.nm.size ≤ maxLen ∧ x.fr.size ≤ maxLen ∧ x.tn.size ≤ maxLen ∧ x.se.size ≤ maxLen) ∧ KnSl W x.cu.A x.cu.l) ∧ W.cell? (a.add (i * 11 + 0)) = some (.string x.nm) ∧ W.cell? (a.add (i * 11 + 1)) = some (.string x.fr) ∧ W.cell? (a.add (i * 11 + 2)) = some (.string x.tn) ∧ W.cell? (a.add (i * 11 + 3)) = some (.int .i64 x.kd) ∧ W.cell? (a.add (i * 11 + 4)) = some (.int .i64 x.le) ∧ W.cell? (a.add (i * 11 + 5)) = some (.int .i64 x.up) ∧ W.cell? (a.add (i * 11 + 6)) = some (.int .i64 x.dn) ∧ W.cell? (a.add (i * 11 + 7)) = some (.string x.se) ∧ W.cell? (a.add (i * 11 + 8)) = some (.int .i64 x.wi) ∧ W.cell? (a.add (i * 11 + 9)) = some (.int .i64 x.he) ∧ W.cell? (a.add (i * 11 + 10)) = some (.slice x.cu.A x.cu.l.length x.cu.c) := fun i hi => by
      obtain ⟨ys, n, _, _, _, hf⟩ := hat i (by omega)
      obtain ⟨v0, y0, hc0, _, ht0⟩ := hf 0 _ rfl
      obtain ⟨v1, y1, hc1, _, ht1⟩ := hf 1 _ rfl
      obtain ⟨v2, y2, hc2, _, ht2⟩ := hf 2 _ rfl
      obtain ⟨v3, y3, hc3, _, ht3⟩ := hf 3 _ rfl
      obtain ⟨v4, y4, hc4, _, ht4⟩ := hf 4 _ rfl
      obtain ⟨v5, y5, hc5, _, ht5⟩ := hf 5 _ rfl
      obtain ⟨v6, y6, hc6, _, ht6⟩ := hf 6 _ rfl
      obtain ⟨v7, y7, hc7, _, ht7⟩ := hf 7 _ rfl
      obtain ⟨v8, y8, hc8, _, ht8⟩ := hf 8 _ rfl
      obtain ⟨v9, y9, hc9, _, ht9⟩ := hf 9 _ rfl
      obtain ⟨v10, y10, hc10, _, ht10⟩ := hf 10 _ rfl
      obtain ⟨x0, e0, _, s0⟩ := DataW.trod_string Tryz.underlying9 ht0
      obtain ⟨x1, e1, _, s1⟩ := DataW.trod_string Tryz.underlying9 ht1
      obtain ⟨x2, e2, _, s2⟩ := DataW.trod_string Tryz.underlying9 ht2
      obtain ⟨x3, e3, _⟩ := DataW.trod_int Tryz.underlying3 ht3
      obtain ⟨x4, e4, _⟩ := DataW.trod_int Tryz.underlying3 ht4
      obtain ⟨x5, e5, _⟩ := DataW.trod_int Tryz.underlying3 ht5
      obtain ⟨x6, e6, _⟩ := DataW.trod_int Tryz.underlying3 ht6
      obtain ⟨x7, e7, _, s7⟩ := DataW.trod_string Tryz.underlying9 ht7
      obtain ⟨x8, e8, _⟩ := DataW.trod_int Tryz.underlying3 ht8
      obtain ⟨x9, e9, _⟩ := DataW.trod_int Tryz.underlying3 ht9
      obtain ⟨A10, c10, l10, rfl, g10⟩ := open_cellKn ht10
      simp only [List.cons.injEq, and_true] at e0 e1 e2 e3 e4 e5 e6 e7 e8 e9
      subst e0 e1 e2 e3 e4 e5 e6 e7 e8 e9
      exact ⟨⟨x0, x1, x2, x3, x4, x5, x6, x7, x8, x9, ⟨l10, A10, c10⟩⟩, ⟨⟨s0, s1, s2, s7⟩, g10⟩, hc0, hc1, hc2, hc3, hc4, hc5, hc6, hc7, hc8, hc9, hc10⟩
    obtain ⟨l, hlen, hl'⟩ := listN_of len' hex
    refine ⟨some a, m, l, by rw [hlen], ⟨by omega, fun i hi => (hl' i hi).1⟩, fun h0 => ?_⟩
    obtain ⟨b, off, spot⟩ := a
    have hspot : spot = none := by simpa [Addr.add] using World.cell?_spot (hl' 0 h0).2.1
    subst hspot
    simp only [addN_plain] at hl'
    refine ⟨b, off, rfl, lt_of_cell (p := ⟨b, off + (0 * 11 + 0), none⟩) (hl' 0 h0).2.1, fun i hi => ?_⟩
    obtain ⟨_, k0, k1, k2, k3, k4, k5, k6, k7, k8, k9, k10⟩ := hl' i hi
    exact ⟨by simpa [Nat.add_assoc] using k0, by simpa [Nat.add_assoc] using k1, by simpa [Nat.add_assoc] using k2, by simpa [Nat.add_assoc] using k3, by simpa [Nat.add_assoc] using k4, by simpa [Nat.add_assoc] using k5, by simpa [Nat.add_assoc] using k6, by simpa [Nat.add_assoc] using k7, by simpa [Nat.add_assoc] using k8, by simpa [Nat.add_assoc] using k9, by simpa [Nat.add_assoc] using k10⟩
theorem open_cellSec {k : Nat} {y : DataW H × List MemPlace} {v : Value} (hf : DataW.trod enc Tryz.prog W 0 (fun _ => true) true k 26 [v] = some y) : ∃ A cap l, v = .slice A (List.length l) cap ∧ SecSl W A l := by
  rcases open_slice_fields Tryz.underlying26 Tryz.underlying53 (by kernel_rfl) (by kernel_rfl) hf with ⟨hcs, _⟩ | ⟨a, len', cap', m, D, Pl, hcs, _, hl, hm, hmm, _, hat⟩
  · simp only [List.cons.injEq, and_true] at hcs
    subst hcs
    exact ⟨none, 0, [], rfl, ⟨by simp, fun i h => by simp at h⟩, fun h => by simp at h⟩
  · simp only [List.cons.injEq, and_true] at hcs
    subst hcs
    simp only [if_true] at hmm
    subst hmm
    have hex : ∀ i, i < len' → ∃ x : Sec, (x.nm.size ≤ maxLen ∧ KnSl W x.ar.A x.ar.l ∧ KnSl W x.cv.A x.cv.l) ∧ W.cell? (a.add (i * 5 + 0)) = some (.string x.nm) ∧ W.cell? (a.add (i * 5 + 1)) = some (.int .i64 x.he) ∧ W.cell? (a.add (i * 5 + 2)) = some (.int .i64 x.pr) ∧ W.cell? (a.add (i * 5 + 3)) = some (.slice x.ar.A x.ar.l.length x.ar.c) ∧ W.cell? (a.add (i * 5 + 4)) = some (.slice x.cv.A x.cv.l.length x.cv.c) := fun i hi => by
      obtain ⟨ys, n, _, _, _, hf⟩ := hat i (by omega)
      obtain ⟨v0, y0, hc0, _, ht0⟩ := hf 0 _ rfl
      obtain ⟨v1, y1, hc1, _, ht1⟩ := hf 1 _ rfl
      obtain ⟨v2, y2, hc2, _, ht2⟩ := hf 2 _ rfl
      obtain ⟨v3, y3, hc3, _, ht3⟩ := hf 3 _ rfl
      obtain ⟨v4, y4, hc4, _, ht4⟩ := hf 4 _ rfl
      obtain ⟨x0, e0, _, s0⟩ := DataW.trod_string Tryz.underlying9 ht0
      obtain ⟨x1, e1, _⟩ := DataW.trod_int Tryz.underlying3 ht1
      obtain ⟨x2, e2, _⟩ := DataW.trod_int Tryz.underlying3 ht2
      obtain ⟨A3, c3, l3, rfl, g3⟩ := open_cellKn ht3
      obtain ⟨A4, c4, l4, rfl, g4⟩ := open_cellKn ht4
      simp only [List.cons.injEq, and_true] at e0 e1 e2
      subst e0 e1 e2
      exact ⟨⟨x0, x1, x2, ⟨l3, A3, c3⟩, ⟨l4, A4, c4⟩⟩, ⟨s0, g3, g4⟩, hc0, hc1, hc2, hc3, hc4⟩
    obtain ⟨l, hlen, hl'⟩ := listN_of len' hex
    refine ⟨some a, m, l, by rw [hlen], ⟨by omega, fun i hi => (hl' i hi).1⟩, fun h0 => ?_⟩
    obtain ⟨b, off, spot⟩ := a
    have hspot : spot = none := by simpa [Addr.add] using World.cell?_spot (hl' 0 h0).2.1
    subst hspot
    simp only [addN_plain] at hl'
    refine ⟨b, off, rfl, lt_of_cell (p := ⟨b, off + (0 * 5 + 0), none⟩) (hl' 0 h0).2.1, fun i hi => ?_⟩
    obtain ⟨_, k0, k1, k2, k3, k4⟩ := hl' i hi
    exact ⟨by simpa [Nat.add_assoc] using k0, by simpa [Nat.add_assoc] using k1, by simpa [Nat.add_assoc] using k2, by simpa [Nat.add_assoc] using k3, by simpa [Nat.add_assoc] using k4⟩
theorem open_slice_cells {P : Program} {w : World} {base : Nat} {spare : Nat → Bool} {held : Bool} {t e : TypeId} {fs : Array Field} {fuel : Nat} {cs : List Value} {x : DataW H × List MemPlace} {c : Nat} (ht : P.underlying t = some (.slice e)) (he : P.underlying e = some (.struct fs))
    (hC : P.cellsOf e = c) (h : DataW.trod enc P w base spare held fuel t cs = some x) :
    cs = [.slice none 0 0] ∨ ∃ (a : Addr) (len cap m : Nat), cs = [.slice (some a) len cap] ∧ len ≤ cap ∧ cap ≤ maxLen ∧ m = (if spare a.block then cap else len) ∧
      ∀ i, i < m → ∃ (cs' : List Value) (n : Nat), cs'.length = c ∧ (∀ j (hj : j < cs'.length), w.cell? (a.add (i * c + j)) = some cs'[j]) ∧
        ∀ (j : Nat) (f : Field), fs[j]? = some f → ∃ y, DataW.trod enc P w base spare held n f.type ((cs'.drop f.offset).take (P.cellsOf f.type)) = some y := by
  rcases Go.Deep.open_slice ht h with h0 | ⟨a, len, cap, m, n, D, Pl, hcs, hb, hl, hm, hmm, hx, hi⟩
  · exact .inl h0.1
  · refine .inr ⟨a, len, cap, m, hcs, hl, hm, hmm, fun i him => ?_⟩
    obtain ⟨cs', hc, ht'⟩ := hi i him
    rw [hC] at hc
    obtain ⟨xs, n', hn', hy, hlen, hxl, hf⟩ := DataW.trod_struct he ht'
    obtain ⟨_, hcl, hat⟩ := World.cells?_some hc
    refine ⟨cs', n', hcl, fun j hj => ?_, fun j f hj => ?_⟩
    · have h1 := hat j (by omega)
      rw [← Go.Deep.add_add, h1, List.getElem?_eq_getElem hj]
    · have h1 := hf j f hj
      have hjl : j < fs.size := (Array.getElem?_eq_some_iff.1 hj).1
      rw [List.getElem?_eq_getElem (by omega)] at h1
      exact ⟨_, h1⟩
set_option maxRecDepth 100000 in
theorem open_cellNod {k : Nat} {y : DataW H × List MemPlace} {v : Value} (hf : DataW.trod enc Tryz.prog W 0 (fun _ => true) true k 22 [v] = some y) : ∃ A cap l, v = .slice A (List.length l) cap ∧ NodSl W A l := by
  have k1 : Tryz.prog.cellsOf 9 = 1 := by kernel_rfl
  have k2 : Tryz.prog.cellsOf 3 = 1 := by kernel_rfl
  have k3 : Tryz.prog.cellsOf 68 = 2 := by kernel_rfl
  have k4 : Tryz.prog.cellsOf 48 = 1 := by kernel_rfl
  have k5 : Tryz.prog.cellsOf 4 = 1 := by kernel_rfl
  rcases open_slice_cells Tryz.underlying22 Tryz.underlying71 (c := 9) (by kernel_rfl) hf with hcs | ⟨a, len', cap', m, hcs, hl, hm, hmm, hat⟩
  · simp only [List.cons.injEq, and_true] at hcs
    subst hcs
    exact ⟨none, 0, [], rfl, ⟨by simp, fun i h => by simp at h⟩, fun h => by simp at h⟩
  · simp only [List.cons.injEq, and_true] at hcs
    subst hcs
    simp only [if_true] at hmm
    subst hmm
    have hex : ∀ i, i < len' → ∃ x : Nod, (x.nm.size ≤ maxLen ∧ KnSl W x.sh.A x.sh.l) ∧ W.cell? (a.add (i * 9 + 0)) = some (.string x.nm) ∧ W.cell? (a.add (i * 9 + 1)) = some (.int .i64 x.kd) ∧ W.cell? (a.add (i * 9 + 2)) = some (.int .i64 x.x) ∧ W.cell? (a.add (i * 9 + 3)) = some (.int .i64 x.y) ∧ W.cell? (a.add (i * 9 + 4)) = some (.int .i64 x.iv) ∧ W.cell? (a.add (i * 9 + 5)) = some (.int .i64 x.gr) ∧ W.cell? (a.add (i * 9 + 6)) = some (.slice x.sh.A x.sh.l.length x.sh.c) ∧ W.cell? (a.add (i * 9 + 7)) = some (.bool x.pro) ∧ W.cell? (a.add (i * 9 + 8)) = some (.int .i64 x.re) := fun i hi => by
      obtain ⟨cs', n, hcl, hcell, hf⟩ := hat i (by omega)
      match cs', hcl, hcell, hf with
      | [v0, v1, v2, v3, v4, v5, v6, v7, v8], _, hcell, hf =>
        have f0 : ∃ y, DataW.trod enc Tryz.prog W 0 (fun _ => true) true n 9 [v0] = some y := by have q := hf 0 _ rfl; simpa [k1] using q
        obtain ⟨y0, t0⟩ := f0
        have f1 : ∃ y, DataW.trod enc Tryz.prog W 0 (fun _ => true) true n 3 [v1] = some y := by have q := hf 1 _ rfl; simpa [k2] using q
        obtain ⟨y1, t1⟩ := f1
        have f2 : ∃ y, DataW.trod enc Tryz.prog W 0 (fun _ => true) true n 68 [v2, v3] = some y := by have q := hf 2 _ rfl; simpa [k3] using q
        obtain ⟨y2, t2⟩ := f2
        have f3 : ∃ y, DataW.trod enc Tryz.prog W 0 (fun _ => true) true n 3 [v4] = some y := by have q := hf 3 _ rfl; simpa [k2] using q
        obtain ⟨y3, t3⟩ := f3
        have f4 : ∃ y, DataW.trod enc Tryz.prog W 0 (fun _ => true) true n 3 [v5] = some y := by have q := hf 4 _ rfl; simpa [k2] using q
        obtain ⟨y4, t4⟩ := f4
        have f5 : ∃ y, DataW.trod enc Tryz.prog W 0 (fun _ => true) true n 48 [v6] = some y := by have q := hf 5 _ rfl; simpa [k4] using q
        obtain ⟨y5, t5⟩ := f5
        have f6 : ∃ y, DataW.trod enc Tryz.prog W 0 (fun _ => true) true n 4 [v7] = some y := by have q := hf 6 _ rfl; simpa [k5] using q
        obtain ⟨y6, t6⟩ := f6
        have f7 : ∃ y, DataW.trod enc Tryz.prog W 0 (fun _ => true) true n 3 [v8] = some y := by have q := hf 7 _ rfl; simpa [k2] using q
        obtain ⟨y7, t7⟩ := f7
        obtain ⟨z0, z1, n2, _, _, u0, u1⟩ := trod_struct2 Tryz.underlying68 t2
        have u0 : DataW.trod enc Tryz.prog W 0 (fun _ => true) true n2 3 [v2] = some z0 := by simpa [k2] using u0
        have u1 : DataW.trod enc Tryz.prog W 0 (fun _ => true) true n2 3 [v3] = some z1 := by simpa [k2] using u1
        obtain ⟨x0, e0, _, s0⟩ := DataW.trod_string Tryz.underlying9 t0
        obtain ⟨x1, e1, _⟩ := DataW.trod_int Tryz.underlying3 t1
        obtain ⟨x2, e2, _⟩ := DataW.trod_int Tryz.underlying3 u0
        obtain ⟨x3, e3, _⟩ := DataW.trod_int Tryz.underlying3 u1
        obtain ⟨x4, e4, _⟩ := DataW.trod_int Tryz.underlying3 t3
        obtain ⟨x5, e5, _⟩ := DataW.trod_int Tryz.underlying3 t4
        obtain ⟨A6, c6, l6, rfl, g6⟩ := open_cellKn t5
        obtain ⟨x7, e7, _⟩ := DataW.trod_bool Tryz.underlying4 t6
        obtain ⟨x8, e8, _⟩ := DataW.trod_int Tryz.underlying3 t7
        simp only [List.cons.injEq, and_true] at e0 e1 e2 e3 e4 e5 e7 e8
        subst e0 e1 e2 e3 e4 e5 e7 e8
        exact ⟨⟨x0, x1, x2, x3, x4, x5, ⟨l6, A6, c6⟩, x7, x8⟩, ⟨s0, g6⟩, hcell 0 (by simp), hcell 1 (by simp), hcell 2 (by simp), hcell 3 (by simp), hcell 4 (by simp), hcell 5 (by simp), hcell 6 (by simp), hcell 7 (by simp), hcell 8 (by simp)⟩
    obtain ⟨l, hlen, hl'⟩ := listN_of len' hex
    refine ⟨some a, m, l, by rw [hlen], ⟨by omega, fun i hi => (hl' i hi).1⟩, fun h0 => ?_⟩
    obtain ⟨b, off, spot⟩ := a
    have hspot : spot = none := by simpa [Addr.add] using World.cell?_spot (hl' 0 h0).2.1
    subst hspot
    simp only [addN_plain] at hl'
    refine ⟨b, off, rfl, lt_of_cell (p := ⟨b, off + (0 * 9 + 0), none⟩) (hl' 0 h0).2.1, fun i hi => ?_⟩
    obtain ⟨_, k0, k1, k2, k3, k4, k5, k6, k7, k8⟩ := hl' i hi
    exact ⟨by simpa [Nat.add_assoc] using k0, by simpa [Nat.add_assoc] using k1, by simpa [Nat.add_assoc] using k2, by simpa [Nat.add_assoc] using k3, by simpa [Nat.add_assoc] using k4, by simpa [Nat.add_assoc] using k5, by simpa [Nat.add_assoc] using k6, by simpa [Nat.add_assoc] using k7, by simpa [Nat.add_assoc] using k8⟩
set_option maxRecDepth 100000 in
theorem open_secS (hv : Value.okWide Tryz.prog W .any b0 26 v) (h : DataW.Trod enc Tryz.prog W 0 (fun _ => true) true 26 v d p) : ∃ A cap l, v = .slice A (List.length l) cap ∧ SecSl W A l := by
  obtain ⟨a0, len, cap, rfl⟩ := okWide_slice Tryz.underlying26 hv
  obtain ⟨fuel, hf⟩ := h
  exact open_cellSec hf
/-- a network as an argument -/
structure Net where
  nl : List Nod
  A : Option Addr
  c : Nat
  ll : List Lnk
  B : Option Addr
  c' : Nat
abbrev Net.val (n : Net) : Value := .agg #[.slice n.A n.nl.length n.c, .slice n.B n.ll.length n.c']
def NetSl (w : World) (n : Net) : Prop := NodSl w n.A n.nl ∧ LnkSl w n.B n.ll
theorem NetSl.below {w w' : World} {n : Net} (h : NetSl w n) (hb : Below w.heap.size w w') : NetSl w' n := ⟨h.1.below hb, h.2.below hb⟩
set_option maxRecDepth 100000 in
theorem open_net (hv : Value.okWide Tryz.prog W .any b0 25 v) (h : DataW.Trod enc Tryz.prog W 0 (fun _ => true) true 25 v d p) : ∃ c : Net, v = c.val ∧ NetSl W c := by
  obtain ⟨v0, v1, y0, y1, n, rfl, _, _, g0, g1⟩ := Joins.open_agg2 Tryz.underlying25 (by kernel_rfl) (by kernel_rfl) hv h
  obtain ⟨A1, c1, l1, rfl, h1⟩ := open_cellNod g0
  obtain ⟨A2, c2, l2, rfl, h2⟩ := open_cellLnk g1
  exact ⟨⟨l1, A1, c1, l2, A2, c2⟩, rfl, h1, h2⟩
end
end Go.Proofs.YtdcdfjinbieblaaGreatDoor
