/- Parts of one proof, joined: Texts by lines, and decimal numbers of at most nine digits in them; plain facts. Rows of the call's own that grow by append, beside blocks of the call's own; slices of integers that read as a list. Triangulated surfaces in memory, and their plain facts: points, turns, triangles, sides. Valid surfaces: their faces are right; plain facts. Trenches, said of integers: points of a line, the face of a point, its level, distances, covers. Wide integers as magnitudes with a sign, said of integers: products, quotients. -/
import Derived.Test.YtlnlaopokelggaaGreatDoorPkCostsTexts2
import Derived.Deep.RegionHeld3
namespace Go.Proofs.YtlnlaopokelggaaGreatDoor
open Go Go.Lib

/-- parts joined by bytes c -/
def jn (c : UInt8) : List (List UInt8) → List UInt8
  | [] => []
  | [p] => p
  | p :: q :: r => p ++ c :: jn c (q :: r)
theorem jn_pts (c : UInt8) : ∀ l, jn c (pts c l) = l
  | [] => rfl
  | b :: r => by
    have ih := jn_pts c r
    rw [pts]
    by_cases h : b = c
    · subst h
      rw [if_pos rfl]
      cases hp : pts b r with
      | nil => exact absurd hp (pts_ne b r)
      | cons p t => rw [hp] at ih; rw [jn, ih]; rfl
    · rw [if_neg h]
      cases hp : pts c r with
      | nil => exact absurd hp (pts_ne c r)
      | cons p t =>
        rw [hp] at ih
        cases t with
        | nil => simp only [jn] at ih ⊢; rw [ih]
        | cons q t => simp only [jn] at ih ⊢; rw [← ih]; rfl
theorem pts_mem {c : UInt8} : ∀ {l : List UInt8}, ∀ p ∈ pts c l, c ∉ p
  | [], p, h => by simp [pts] at h; simp [h]
  | b :: r, p, h => by
    have ih := fun p h => pts_mem (c := c) (l := r) p h
    rw [pts] at h
    by_cases hb : b = c
    · rw [if_pos hb] at h
      rcases List.mem_cons.1 h with rfl | h
      · simp
      · exact ih p h
    · rw [if_neg hb] at h
      cases hp : pts c r with
      | nil => exact absurd hp (pts_ne c r)
      | cons q t =>
        rw [hp] at h ih
        rcases List.mem_cons.1 h with rfl | h
        · intro e
          rcases List.mem_cons.1 e with e | e
          · exact hb e.symm
          · exact ih q (List.mem_cons_self ..) e
        · exact ih p (List.mem_cons_of_mem _ h)
/-- a text's lines, each with its end -/
def lnsOf : List (List UInt8) → List (List UInt8)
  | [] => []
  | [p] => if p = [] then [] else [p]
  | p :: q :: r => (p ++ [10]) :: lnsOf (q :: r)
def lns (l : List UInt8) : List (List UInt8) := lnsOf (pts 10 l)
theorem lns_nil : lns [] = [] := rfl
theorem lns_one {a : List UInt8} (h : (10 : UInt8) ∉ a) (h1 : a ≠ []) : lns a = [a] := by
  unfold lns; rw [pts_no h, lnsOf, if_neg h1]
theorem lns_at {a r : List UInt8} (h : (10 : UInt8) ∉ a) : lns (a ++ 10 :: r) = (a ++ [10]) :: lns r := by
  unfold lns
  rw [pts_at h]
  cases hp : pts 10 r with
  | nil => exact absurd hp (pts_ne 10 r)
  | cons p t => rw [lnsOf]
theorem lnsOf_len : ∀ (ps : List (List UInt8)) (n : Nat), (∀ p ∈ ps, p.length ≤ n) → ∀ x ∈ lnsOf ps, x.length ≤ n + 1
  | [], _, _, x, h => by simp [lnsOf] at h
  | [p], n, hp, x, h => by
    rw [lnsOf] at h
    split at h
    · simp at h
    · rw [List.mem_singleton.1 h]
      have := hp p (List.mem_cons_self ..)
      omega
  | p :: q :: r, n, hp, x, h => by
    rw [lnsOf] at h
    rcases List.mem_cons.1 h with rfl | h
    · have := hp p (List.mem_cons_self ..)
      simp; exact this
    · exact lnsOf_len (q :: r) n (fun y hy => hp y (List.mem_cons_of_mem _ hy)) x h
def endB (x : List UInt8) : Bool := hasSuffix x [10]
def bodyL (x : List UInt8) : List UInt8 := if endB x then x.take (x.length - 1) else x
theorem end_yes (p : List UInt8) : endB (p ++ [10]) = true ∧ bodyL (p ++ [10]) = p := by
  have h : endB (p ++ [10]) = true := by
    unfold endB hasSuffix
    rw [List.isSuffixOf_iff_suffix]
    exact ⟨p, rfl⟩
  refine ⟨h, ?_⟩
  unfold bodyL
  rw [if_pos h]
  simp
theorem end_no {p : List UInt8} (h : (10 : UInt8) ∉ p) : endB p = false := by
  rcases Bool.eq_false_or_eq_true (endB p) with h1 | h1
  · unfold endB hasSuffix at h1
    rw [List.isSuffixOf_iff_suffix] at h1
    obtain ⟨t, rfl⟩ := h1
    simp at h
  · exact h1
theorem dg_no {c : UInt8} (h : c.toNat < 48) {l : List UInt8} (hl : ∀ x ∈ l, isDg x) : c ∉ l := by
  intro e
  have := hl c e
  unfold isDg at this
  omega
theorem itoa_no {c : UInt8} (h : c.toNat < 45) (n : Int) : c ∉ itoa n := by
  intro e
  rcases itoa_mem e with h1 | h1
  · unfold isDg at h1; omega
  · omega
theorem rn_dec {n : Int} (h0 : 0 ≤ n) (h1 : n < 1000000000) : rnB (itoa n) = true ∧ (valL 0 (itoa n) : Int) = n := by
  rw [itoa_pos h0]
  refine ⟨?_, by rw [valL_dec]; omega⟩
  have hd := dec_dg n.toNat
  unfold rnB
  simp only [Bool.and_eq_true, decide_eq_true_eq, Bool.not_eq_true', Bool.and_eq_false_iff, decide_eq_false_iff_not]
  refine ⟨⟨⟨List.length_pos_iff.2 (dec_ne _), ?_⟩, ?_⟩, all_dg.2 hd⟩
  · rcases Nat.lt_or_ge 9 (decDigits n.toNat).length with h | h
    · exfalso
      have hz : 1 < (decDigits n.toNat).length → (decDigits n.toNat).head?.map UInt8.toNat ≠ some 48 := fun h => dec_head (dec_len1 h)
      have hv := valL_dec n.toNat
      -- ten digits without superfluous zeros are 10 ^ 9 at least
      have key : ∀ (l : List UInt8) (a : Nat), 1 ≤ a → (∀ c ∈ l, isDg c) → a * 10 ^ l.length ≤ valL a l := by
        intro l
        induction l with
        | nil => intro a _ _; simp [valL]
        | cons c r ih =>
          intro a ha hc
          have := ih (a * 10 + (c.toNat - 48)) (by omega) (fun x hx => hc x (List.mem_cons_of_mem _ hx))
          show a * 10 ^ (r.length + 1) ≤ valL (a * 10 + (c.toNat - 48)) r
          refine Nat.le_trans ?_ this
          rw [Nat.pow_succ, Nat.mul_comm (10 ^ r.length) 10, ← Nat.mul_assoc]
          exact Nat.mul_le_mul_right _ (by omega)
      cases hl : decDigits n.toNat with
      | nil => exact absurd hl (dec_ne _)
      | cons c r =>
        rw [hl] at h hz hv hd
        have h2 := hd c (List.mem_cons_self ..)
        unfold isDg at h2
        have h3 : c.toNat ≠ 48 := fun e => hz (by omega) (by simp [e])
        have := key r (0 * 10 + (c.toNat - 48)) (by omega) (fun x hx => hd x (List.mem_cons_of_mem _ hx))
        have hv' : valL (0 * 10 + (c.toNat - 48)) r = n.toNat := hv
        have h9 : 10 ^ 9 ≤ 10 ^ r.length := Nat.pow_le_pow_right (by decide) (by simp at h; omega)
        have : 1 * 10 ^ r.length ≤ (0 * 10 + (c.toNat - 48)) * 10 ^ r.length := Nat.mul_le_mul_right _ (by omega)
        have e9 : (10 : Nat) ^ 9 = 1000000000 := by decide
        omega
    · exact h
  · by_cases h5 : 1 < (decDigits n.toNat).length
    · exact .inr fun h6 => dec_head (dec_len1 h5) ((head_48 _).1 h6)
    · exact .inl h5
/-- what is read has the text -/
theorem num_back {l : List UInt8} (h : rnB l = true) : itoa (valL 0 l : Nat) = l := by
  obtain ⟨h1, h2, h3, h4⟩ := rn_facts h
  rw [itoa_nat, dec_valL l h1 h2 h4]
end Go.Proofs.YtlnlaopokelggaaGreatDoor

namespace Go.Proofs.YtlnlaopokelggaaGreatDoor
open Go.RowKit

theorem grown_of_below {w w' : World} (h : Below w.heap.size w w') (row : Option Nat) : w.grownBy w' row := ⟨h.os, h.tape, h.output, h.size, fun i hi _ => h.block i hi⟩
theorem row_below {w w' : World} {base : Nat} {e : TypeId} {size n : Nat} {v : Value} {xs : List Value} (h : w.ownsRow base e size v n xs) (hb : Below w.heap.size w w') : w'.ownsRow base e size v n xs :=
  h.kept (grown_of_below hb none) (by cases v.ownBlock <;> simp)
theorem row_drew {w : World} {base : Nat} {e : TypeId} {size n : Nat} {v : Value} {xs : List Value} (h : w.ownsRow base e size v n xs) : w.drew.ownsRow base e size v n xs := h
theorem row_set {w : World} {base g : Nat} {e t : TypeId} {size n : Nat} {v : Value} {xs : List Value} {cs : Array Value} (h : w.ownsRow base e size v n xs) (hB : Blk w g t cs) (hne : e ≠ t) (i : Nat) (u : Value) :
    (w.setCell ⟨g, i, none⟩ u).ownsRow base e size v n xs := by
  have hn := own_blk_ne h hB hne
  refine h.kept (row := some g) ⟨rfl, rfl, rfl, by simp [World.setCell], fun k hk hne => ?_⟩ (.inr hn)
  exact Below.heap_setCell w ⟨g, i, none⟩ u k (fun e => hne (by rw [e]))
theorem Own.grown {w W W' : World} {L : List (Nat × TypeId × Array Value)} {e : TypeId} {size n : Nat} {v : Value} {xs : List Value} (h : Own w W L) (hrow : W.ownsRow w.heap.size e size v n xs) (hg : W.grownBy W' v.ownBlock)
    (hty : ∀ x ∈ L, e ≠ x.2.1) : Own w W' L :=
  ⟨h.1.grown hg h.1.size (fun k hk => (hrow.lt k hk).1), fun x hx => (h.2 x hx).grown hg (fun e' => own_blk_ne hrow (h.2 x hx) (hty x hx) e'.symm)⟩

/-- a slice of integers that reads as a list -/
def IntSl (w : World) (A : Option Addr) (l : List Int) : Prop :=
  (l.length ≤ 9223372036854775807 ∧ ∀ i (h : i < l.length), -9223372036854775808 ≤ l[i] ∧ l[i] ≤ 9223372036854775807) ∧ (0 < l.length → ∃ b off, A = some ⟨b, off, none⟩ ∧ b < w.heap.size ∧ ∀ i (h : i < l.length), w.cell? ⟨b, off + i, none⟩ = some (.int .i64 l[i]))
theorem IntSl.below {w w' : World} {A : Option Addr} {l : List Int} (h : IntSl w A l) (hb : Below w.heap.size w w') : IntSl w' A l :=
  ⟨h.1, fun hl => by obtain ⟨b, off, e, hlt, hat⟩ := h.2 hl; exact ⟨b, off, e, Nat.lt_of_lt_of_le hlt hb.size, fun i hi => (hb.cell (p := ⟨b, off + i, none⟩) hlt).trans (hat i hi)⟩⟩
theorem IntSl.nil (w : World) (A : Option Addr) : IntSl w A [] := ⟨⟨by simp, fun i h => by simp at h⟩, fun h => by simp at h⟩
/-- a row of the call's own that holds integers, read as a slice -/
theorem IntSl.of_row {w : World} {base : Nat} {e : TypeId} {v : Value} {n : Nat} {l : List Int} (h : w.ownsRow base e 1 v n (l.map (Value.int .i64)))
    (hb : l.length ≤ 9223372036854775807) (hr : ∀ i (h : i < l.length), -9223372036854775808 ≤ l[i] ∧ l[i] ≤ 9223372036854775807) : ∃ A c, v = .slice A l.length c ∧ IntSl w A l := by
  have hn : l.length = n := by have := h.1; simpa using this
  rcases h.2 with ⟨rfl, h0⟩ | ⟨g, cap, cur, rfl, hg, hcell, hnc, _, hsz, htake⟩
  · rw [h0] at hn
    have : l = [] := List.eq_nil_of_length_eq_zero hn
    subst this
    exact ⟨none, 0, rfl, IntSl.nil w none⟩
  · subst hn
    refine ⟨some ⟨g, 0, none⟩, cap, rfl, ⟨hb, hr⟩, fun _ => ⟨g, 0, rfl, (Array.getElem?_eq_some_iff.1 hcell).1, fun i hi => ?_⟩⟩
    have hc := h.cells (g := g) rfl i (.int .i64 l[i]) (by simp [hi])
    have e : (⟨g, 0, none⟩ : Addr).add i = ⟨g, 0 + i, none⟩ := by unfold Addr.add; split <;> simp_all
    rw [e] at hc
    exact hc
end Go.Proofs.YtlnlaopokelggaaGreatDoor

namespace Go.Proofs.YtlnlaopokelggaaGreatDoor
open Go Go.RowKit

structure Spt where
  x : Int
  y : Int
  z : Int
structure Fce where
  a : Int
  b : Int
  c : Int
  k : Int
structure Msh where
  ss : List Spt
  fs : List Fce
structure MshA where
  A1 : Option Addr
  c1 : Nat
  A2 : Option Addr
  c2 : Nat
abbrev Spt.val (s : Spt) : Value := .agg #[.int .i64 s.x, .int .i64 s.y, .int .i64 s.z]
abbrev Fce.val (f : Fce) : Value := .agg #[.int .i64 f.a, .int .i64 f.b, .int .i64 f.c, .int .i64 f.k]
abbrev Msh.cells (m : Msh) (a : MshA) : Array Value := #[.slice a.A1 m.ss.length a.c1, .slice a.A2 m.fs.length a.c2]
abbrev Msh.val (m : Msh) (a : MshA) : Value := .agg (m.cells a)
def i64 (n : Int) : Prop := -9223372036854775808 ≤ n ∧ n ≤ 9223372036854775807
def SptAt (w : World) (b o : Nat) (s : Spt) : Prop := w.cell? ⟨b, o, none⟩ = some (.int .i64 s.x) ∧ w.cell? ⟨b, o + 1, none⟩ = some (.int .i64 s.y) ∧ w.cell? ⟨b, o + 2, none⟩ = some (.int .i64 s.z)
def FceAt (w : World) (b o : Nat) (f : Fce) : Prop :=
  w.cell? ⟨b, o, none⟩ = some (.int .i64 f.a) ∧ w.cell? ⟨b, o + 1, none⟩ = some (.int .i64 f.b) ∧ w.cell? ⟨b, o + 2, none⟩ = some (.int .i64 f.c) ∧ w.cell? ⟨b, o + 3, none⟩ = some (.int .i64 f.k)
def SptSl (w : World) (A : Option Addr) (l : List Spt) : Prop :=
  (l.length ≤ maxLen ∧ ∀ i (h : i < l.length), i64 l[i].x ∧ i64 l[i].y ∧ i64 l[i].z) ∧ (0 < l.length → ∃ b off, A = some ⟨b, off, none⟩ ∧ b < w.heap.size ∧ ∀ i (h : i < l.length), SptAt w b (off + i * 3) l[i])
def FceSl (w : World) (A : Option Addr) (l : List Fce) : Prop :=
  (l.length ≤ maxLen ∧ ∀ i (h : i < l.length), i64 l[i].a ∧ i64 l[i].b ∧ i64 l[i].c ∧ i64 l[i].k) ∧ (0 < l.length → ∃ b off, A = some ⟨b, off, none⟩ ∧ b < w.heap.size ∧ ∀ i (h : i < l.length), FceAt w b (off + i * 4) l[i])
theorem SptSl.below {w w' : World} {A : Option Addr} {l : List Spt} (h : SptSl w A l) (hb : Below w.heap.size w w') : SptSl w' A l :=
  ⟨h.1, fun hl => by
    obtain ⟨b, off, e, hlt, hat⟩ := h.2 hl
    have k := fun (i : Nat) => hb.cell (p := ⟨b, i, none⟩) hlt
    exact ⟨b, off, e, Nat.lt_of_lt_of_le hlt hb.size, fun i hi => ⟨(k _).trans (hat i hi).1, (k _).trans (hat i hi).2.1, (k _).trans (hat i hi).2.2⟩⟩⟩
theorem FceSl.below {w w' : World} {A : Option Addr} {l : List Fce} (h : FceSl w A l) (hb : Below w.heap.size w w') : FceSl w' A l :=
  ⟨h.1, fun hl => by
    obtain ⟨b, off, e, hlt, hat⟩ := h.2 hl
    have k := fun (i : Nat) => hb.cell (p := ⟨b, i, none⟩) hlt
    exact ⟨b, off, e, Nat.lt_of_lt_of_le hlt hb.size, fun i hi => ⟨(k _).trans (hat i hi).1, (k _).trans (hat i hi).2.1, (k _).trans (hat i hi).2.2.1, (k _).trans (hat i hi).2.2.2⟩⟩⟩
def MshSl (w : World) (m : Msh) (a : MshA) : Prop := SptSl w a.A1 m.ss ∧ FceSl w a.A2 m.fs
theorem MshSl.below {w w' : World} {m : Msh} {a : MshA} (h : MshSl w m a) (hb : Below w.heap.size w w') : MshSl w' m a := ⟨h.1.below hb, h.2.below hb⟩
/-- points -/
structure Pnt where
  x : Int
  y : Int
deriving DecidableEq
abbrev Pnt.val (p : Pnt) : Value := .agg #[.int .i64 p.x, .int .i64 p.y]
def Pnt.in (p : Pnt) : Prop := (-16777216 ≤ p.x ∧ p.x ≤ 16777216) ∧ -16777216 ≤ p.y ∧ p.y ≤ 16777216
def inP (p : Pnt) : Bool := decide (-16777216 ≤ p.x) && decide (p.x ≤ 16777216) && decide (-16777216 ≤ p.y) && decide (p.y ≤ 16777216)
theorem inP_iff {p : Pnt} : inP p = true ↔ p.in := by simp [inP, Pnt.in]; omega
def Spt.pt (s : Spt) : Pnt := ⟨s.x, s.y⟩
def okS (s : Spt) : Bool := inP s.pt && decide (-4194304 ≤ s.z) && decide (s.z ≤ 4194304)
theorem okS_in {s : Spt} (h : okS s = true) : s.pt.in := by
  simp only [okS, Bool.and_eq_true] at h
  exact inP_iff.1 h.1.1
def trn (a b c : Pnt) : Int := (b.x - a.x) * (c.y - a.y) - (b.y - a.y) * (c.x - a.x)
theorem mul_bd {x y : Int} {n : Nat} (hx : -(n : Int) ≤ x ∧ x ≤ n) (hy : -(n : Int) ≤ y ∧ y ≤ n) : -((n * n : Nat) : Int) ≤ x * y ∧ x * y ≤ ((n * n : Nat) : Int) := by
  have h1 : x.natAbs ≤ n := by omega
  have h2 : y.natAbs ≤ n := by omega
  have h3 : (x * y).natAbs ≤ n * n := by rw [Int.natAbs_mul]; exact Nat.mul_le_mul h1 h2
  omega
theorem trn_bd {a b c : Pnt} (ha : a.in) (hb : b.in) (hc : c.in) : (-1125899906842624 ≤ (b.x - a.x) * (c.y - a.y) ∧ (b.x - a.x) * (c.y - a.y) ≤ 1125899906842624) ∧ (-1125899906842624 ≤ (b.y - a.y) * (c.x - a.x) ∧ (b.y - a.y) * (c.x - a.x) ≤ 1125899906842624) := by
  obtain ⟨⟨a1, a2⟩, a3, a4⟩ := ha
  obtain ⟨⟨b1, b2⟩, b3, b4⟩ := hb
  obtain ⟨⟨c1, c2⟩, c3, c4⟩ := hc
  have m1 := mul_bd (x := b.x - a.x) (y := c.y - a.y) (n := 33554432) (by omega) (by omega)
  have m2 := mul_bd (x := b.y - a.y) (y := c.x - a.x) (n := 33554432) (by omega) (by omega)
  exact ⟨m1, m2⟩
structure Tri where
  p : Pnt
  q : Pnt
  r : Pnt
abbrev Tri.cells (t : Tri) : List Value := [.int .i64 t.p.x, .int .i64 t.p.y, .int .i64 t.q.x, .int .i64 t.q.y, .int .i64 t.r.x, .int .i64 t.r.y]
def Tri.in (t : Tri) : Prop := t.p.in ∧ t.q.in ∧ t.r.in
/-- a line has a triangle on its right, or on itself -/
def rgt (a b : Pnt) (u : Tri) : Bool := decide (trn a b u.p ≤ 0) && decide (trn a b u.q ≤ 0) && decide (trn a b u.r ≤ 0)
def sepB (t u : Tri) : Bool := rgt t.p t.q u || rgt t.q t.r u || rgt t.r t.p u
def ovlB (t u : Tri) : Bool := !sepB t u && !sepB u t
def spA (l : List Spt) (i : Int) : Spt := l.getD i.toNat ⟨0, 0, 0⟩
def triA (l : List Spt) (f : Fce) : Tri := ⟨(spA l f.a).pt, (spA l f.b).pt, (spA l f.c).pt⟩
/-- a corner is right -/
def cnB (l : List Spt) (i : Int) : Bool := decide (0 ≤ i) && decide (i < l.length) && okS (spA l i)
def crB (l : List Spt) (f : Fce) : Bool := cnB l f.a && cnB l f.b && cnB l f.c && !decide (f.a = f.b) && !decide (f.b = f.c) && !decide (f.c = f.a) && decide (0 ≤ f.k) && decide (f.k < 16)
/-- the sides of a face -/
def sdA (f : Fce) : Nat → Int × Int
  | 0 => (f.a, f.b)
  | 1 => (f.b, f.c)
  | _ => (f.c, f.a)
def ssB (f g : Fce) : Bool := (List.range 3).any fun i => (List.range 3).any fun k => decide (sdA f i = sdA g k)
def posB (l : List Spt) (f : Fce) : Bool := decide (0 < trn (triA l f).p (triA l f).q (triA l f).r)
/-- the indices of the findings of each kind -/
def fin1 (l : List Spt) (n : Nat) : List Nat := (List.range n).filter fun i => !okS (spA l i)
def fin2 (l : List Spt) (n : Nat) : List Nat := (List.range n).filter fun i => okS (spA l i) && (List.range i).any fun k => okS (spA l k) && decide ((spA l k).pt = (spA l i).pt)
def fcA (g : List Fce) (i : Nat) : Fce := g.getD i ⟨0, 0, 0, 0⟩
def snd (l : List Spt) (g : List Fce) (n : Nat) : List Nat := (List.range n).filter fun i => crB l (fcA g i) && posB l (fcA g i)
def fin3 (l : List Spt) (g : List Fce) (n : Nat) : List Nat := (List.range n).filter fun i => !crB l (fcA g i)
def fin4 (l : List Spt) (g : List Fce) (n : Nat) : List Nat := (List.range n).filter fun i => crB l (fcA g i) && !posB l (fcA g i)
def fin5 (l : List Spt) (g : List Fce) (n : Nat) : List Nat := (List.range n).filter fun i => (crB l (fcA g i) && posB l (fcA g i)) && (snd l g i).any fun k => ssB (fcA g i) (fcA g k)
def fin6 (l : List Spt) (g : List Fce) (n : Nat) : List Nat := (List.range n).filter fun i => (crB l (fcA g i) && posB l (fcA g i)) && (snd l g i).any fun k => ovlB (triA l (fcA g i)) (triA l (fcA g k))
def smB (m : Msh) : Bool := decide (m.ss.length ≤ 2000) && decide (m.fs.length ≤ 4000)
/-- a surface is valid -/
def vM (m : Msh) : Bool := smB m && decide (fin1 m.ss m.ss.length = [] ∧ fin2 m.ss m.ss.length = [] ∧ fin3 m.ss m.fs m.fs.length = [] ∧ fin4 m.ss m.fs m.fs.length = [] ∧ fin5 m.ss m.fs m.fs.length = [] ∧ fin6 m.ss m.fs m.fs.length = [])
theorem filt_s {p : Nat → Bool} (n : Nat) : (List.range (n + 1)).filter p = (List.range n).filter p ++ if p n = true then [n] else [] := by
  rw [List.range_succ, List.filter_append]
  congr 1
  simp [List.filter_cons]
theorem filt_0 {p : Nat → Bool} : (List.range 0).filter p = [] := rfl
end Go.Proofs.YtlnlaopokelggaaGreatDoor

namespace Go.Proofs.YtlnlaopokelggaaGreatDoor
open Go Go.RowKit

theorem trn_bd2 {a b c : Pnt} (ha : a.in) (hb : b.in) (hc : c.in) : -2251799813685248 ≤ trn a b c ∧ trn a b c ≤ 2251799813685248 := by
  obtain ⟨h1, h2⟩ := trn_bd ha hb hc
  unfold trn
  omega
/-- the faces of a valid surface are right -/
theorem vM_face {ss : List Spt} {fs : List Fce} (h : vM ⟨ss, fs⟩ = true) : ∀ i, i < fs.length → crB ss (fcA fs i) = true ∧ posB ss (fcA fs i) = true := by
  intro i hi
  simp only [vM, Bool.and_eq_true, decide_eq_true_eq] at h
  obtain ⟨_, _, _, h3, h4, _⟩ := h
  have k3 : ¬ i ∈ fin3 ss fs fs.length := by
    rw [show fin3 ss fs fs.length = [] from h3]; simp
  have k4 : ¬ i ∈ fin4 ss fs fs.length := by
    rw [show fin4 ss fs fs.length = [] from h4]; simp
  have c : crB ss (fcA fs i) = true := by
    cases e : crB ss (fcA fs i) with
    | true => rfl
    | false => exact absurd (by simp [fin3, hi, e]) k3
  refine ⟨c, ?_⟩
  cases e : posB ss (fcA fs i) with
  | true => rfl
  | false => exact absurd (by simp [fin4, hi, e, c]) k4
theorem vM_small {ss : List Spt} {fs : List Fce} (h : vM ⟨ss, fs⟩ = true) : ss.length ≤ 2000 ∧ fs.length ≤ 4000 := by
  simp only [vM, smB, Bool.and_eq_true, decide_eq_true_eq] at h
  exact h.1
end Go.Proofs.YtlnlaopokelggaaGreatDoor

namespace Go.Proofs.YtlnlaopokelggaaGreatDoor

/-- the k-th point of a line in 16 parts -/
def ptA (a b : Pnt) (k : Nat) : Pnt := ⟨a.x + (b.x - a.x) * (k : Int) / 16, a.y + (b.y - a.y) * (k : Int) / 16⟩
theorem part_bd {d : Int} {k : Nat} (hk : k ≤ 16) : (0 ≤ d → 0 ≤ d * (k : Int) ∧ d * (k : Int) ≤ d * 16) ∧ (d ≤ 0 → d * 16 ≤ d * (k : Int) ∧ d * (k : Int) ≤ 0) := by
  refine ⟨fun h => ⟨Int.mul_nonneg h (by omega), Int.mul_le_mul_of_nonneg_left (by omega) h⟩, fun h => ?_⟩
  have h1 : 0 ≤ (-d) * (k : Int) := Int.mul_nonneg (by omega) (by omega)
  have h2 : (-d) * (k : Int) ≤ (-d) * 16 := Int.mul_le_mul_of_nonneg_left (by omega) (by omega)
  rw [Int.neg_mul] at h1 h2
  omega
theorem ptA_bd {x y : Int} {k : Nat} (hx : -16777216 ≤ x ∧ x ≤ 16777216) (hy : -16777216 ≤ y ∧ y ≤ 16777216) (hk : k ≤ 16) :
    (-536870912 ≤ (y - x) * (k : Int) ∧ (y - x) * (k : Int) ≤ 536870912) ∧ -16777216 ≤ x + (y - x) * (k : Int) / 16 ∧ x + (y - x) * (k : Int) / 16 ≤ 16777216 := by
  obtain ⟨h1, h2⟩ := part_bd (d := y - x) hk
  generalize (y - x) * (k : Int) = t at *
  omega
theorem ptA_in {a b : Pnt} (ha : a.in) (hb : b.in) {k : Nat} (hk : k ≤ 16) : (ptA a b k).in :=
  ⟨(ptA_bd ha.1 hb.1 hk).2, (ptA_bd ha.2 hb.2 hk).2⟩
/-- a point is on a triangle -/
def onB (t : Tri) (p : Pnt) : Bool := decide (0 ≤ trn t.p t.q p) && decide (0 ≤ trn t.q t.r p) && decide (0 ≤ trn t.r t.p p)
/-- the face of a point -/
def fdA (m : Msh) (p : Pnt) : Option Nat := m.fs.findIdx? fun f => onB (triA m.ss f) p
theorem fdA_some {m : Msh} {p : Pnt} {i : Nat} : fdA m p = some i ↔ ∃ h : i < m.fs.length, onB (triA m.ss m.fs[i]) p = true ∧ ∀ j (hj : j < m.fs.length), j < i → onB (triA m.ss m.fs[j]) p = false := by
  unfold fdA
  rw [List.findIdx?_eq_some_iff_getElem]
  constructor
  · rintro ⟨h, h1, h2⟩
    exact ⟨h, h1, fun j hj hji => by simpa using h2 j hji⟩
  · rintro ⟨h, h1, h2⟩
    exact ⟨h, h1, fun j hji => by simpa using h2 j (by omega) hji⟩
theorem fdA_none {m : Msh} {p : Pnt} : fdA m p = none ↔ ∀ j (hj : j < m.fs.length), onB (triA m.ss m.fs[j]) p = false := by
  unfold fdA
  rw [List.findIdx?_eq_none_iff]
  constructor
  · intro h j hj; exact h _ (List.getElem_mem hj)
  · intro h x hx
    obtain ⟨j, hj, rfl⟩ := List.getElem_of_mem hx
    exact h j hj
/-- the level of a point on a face: a numerator and a denominator -/
def numA (l : List Spt) (f : Fce) (p : Pnt) : Int :=
  (spA l f.a).z * trn p (triA l f).q (triA l f).r + (spA l f.b).z * trn p (triA l f).r (triA l f).p + (spA l f.c).z * trn p (triA l f).p (triA l f).q
def denA (l : List Spt) (f : Fce) : Int := trn (triA l f).p (triA l f).q (triA l f).r
theorem trn_cyc (a b c : Pnt) : trn a b c = trn b c a := by unfold trn; grind
theorem trn_sum (a b c p : Pnt) : trn p b c + trn p c a + trn p a b = trn a b c := by unfold trn; grind
theorem mul_le_c {z w : Int} (hz : -4194304 ≤ z ∧ z ≤ 4194304) (hw : 0 ≤ w) : -(4194304 * w) ≤ z * w ∧ z * w ≤ 4194304 * w := by
  refine ⟨?_, Int.mul_le_mul_of_nonneg_right hz.2 hw⟩
  have := Int.mul_le_mul_of_nonneg_right hz.1 hw
  omega
/-- what is known of a face of a valid surface that a point is on -/
structure OnF (l : List Spt) (f : Fce) (p : Pnt) : Prop where
  a : 0 ≤ f.a ∧ f.a < l.length
  b : 0 ≤ f.b ∧ f.b < l.length
  c : 0 ≤ f.c ∧ f.c < l.length
  za : -4194304 ≤ (spA l f.a).z ∧ (spA l f.a).z ≤ 4194304
  zb : -4194304 ≤ (spA l f.b).z ∧ (spA l f.b).z ≤ 4194304
  zc : -4194304 ≤ (spA l f.c).z ∧ (spA l f.c).z ≤ 4194304
  i : (triA l f).in
  w1 : 0 ≤ trn p (triA l f).q (triA l f).r
  w2 : 0 ≤ trn p (triA l f).r (triA l f).p
  w3 : 0 ≤ trn p (triA l f).p (triA l f).q
  d : 0 < denA l f
structure OkF (l : List Spt) (f : Fce) : Prop where
  a : 0 ≤ f.a ∧ f.a < l.length
  b : 0 ≤ f.b ∧ f.b < l.length
  c : 0 ≤ f.c ∧ f.c < l.length
  za : -4194304 ≤ (spA l f.a).z ∧ (spA l f.a).z ≤ 4194304
  zb : -4194304 ≤ (spA l f.b).z ∧ (spA l f.b).z ≤ 4194304
  zc : -4194304 ≤ (spA l f.c).z ∧ (spA l f.c).z ≤ 4194304
  i : (triA l f).in
  d : 0 < denA l f
theorem cnB_ok {l : List Spt} {i : Int} (h : cnB l i = true) : (0 ≤ i ∧ i < l.length) ∧ (-4194304 ≤ (spA l i).z ∧ (spA l i).z ≤ 4194304) ∧ (spA l i).pt.in := by
  simp only [cnB, Bool.and_eq_true, decide_eq_true_eq] at h
  refine ⟨⟨h.1.1, h.1.2⟩, ?_, okS_in h.2⟩
  have := h.2
  simp only [okS, Bool.and_eq_true, decide_eq_true_eq] at this
  exact ⟨this.1.2, this.2⟩
theorem okF_of {m : Msh} (h : vM m = true) {i : Nat} (hi : i < m.fs.length) : OkF m.ss m.fs[i] := by
  obtain ⟨ss, fs⟩ := m
  obtain ⟨hc, hp⟩ := vM_face h i hi
  have e : fcA fs i = fs[i] := by simp [fcA, hi]
  rw [e] at hc hp
  simp only [crB, Bool.and_eq_true] at hc
  obtain ⟨⟨⟨⟨⟨⟨⟨h1, h2⟩, h3⟩, _⟩, _⟩, _⟩, _⟩, _⟩ := hc
  obtain ⟨a1, a2, a3⟩ := cnB_ok h1
  obtain ⟨b1, b2, b3⟩ := cnB_ok h2
  obtain ⟨c1, c2, c3⟩ := cnB_ok h3
  exact ⟨a1, b1, c1, a2, b2, c2, ⟨a3, b3, c3⟩, by simpa [posB, denA] using hp⟩
theorem onF_of {l : List Spt} {f : Fce} {p : Pnt} (k : OkF l f) (h : onB (triA l f) p = true) : OnF l f p := by
  simp only [onB, Bool.and_eq_true, decide_eq_true_eq] at h
  obtain ⟨⟨h1, h2⟩, h3⟩ := h
  exact ⟨k.a, k.b, k.c, k.za, k.zb, k.zc, k.i, by rw [trn_cyc]; exact h2, by rw [trn_cyc]; exact h3, by rw [trn_cyc]; exact h1, k.d⟩
theorem OnF.num {l : List Spt} {f : Fce} {p : Pnt} (h : OnF l f p) : -(4194304 * denA l f) ≤ numA l f p ∧ numA l f p ≤ 4194304 * denA l f := by
  have e := trn_sum (triA l f).p (triA l f).q (triA l f).r p
  have h1 := mul_le_c h.za h.w1
  have h2 := mul_le_c h.zb h.w2
  have h3 := mul_le_c h.zc h.w3
  unfold numA denA
  rw [← e]
  omega
def lvS (l : List Spt) (f : Fce) (p : Pnt) : Sp := ⟨dn (numA l f p) (denA l f), up (numA l f p) (denA l f)⟩
theorem dn_rng {n d : Int} {z : Int} (hd : 0 < d) (h1 : -(z * d) ≤ n) (h2 : n ≤ z * d) : (-z ≤ dn n d ∧ dn n d ≤ z) ∧ (-z ≤ up n d ∧ up n d ≤ z) ∧ dn n d ≤ up n d := by
  obtain ⟨k1, k2⟩ := dn_bd (n := n) hd
  obtain ⟨j1, j2⟩ := up_bd (n := n) hd
  refine ⟨⟨?_, ?_⟩, ⟨?_, ?_⟩, ?_⟩
  · have : (-z) * d < (dn n d + 1) * d := by rw [Int.neg_mul]; omega
    have := Int.lt_of_mul_lt_mul_right this (by omega)
    omega
  · exact Int.le_of_mul_le_mul_right (by omega : dn n d * d ≤ z * d) hd
  · exact Int.le_of_mul_le_mul_right (by rw [Int.neg_mul]; omega : (-z) * d ≤ up n d * d) hd
  · have : (up n d - 1) * d < z * d := by omega
    have := Int.lt_of_mul_lt_mul_right this (by omega)
    omega
  · exact Int.le_of_mul_le_mul_right (by omega : dn n d * d ≤ up n d * d) hd
theorem OnF.lv {l : List Spt} {f : Fce} {p : Pnt} (h : OnF l f p) : (-4194304 ≤ (lvS l f p).lo ∧ (lvS l f p).lo ≤ 4194304) ∧ (-4194304 ≤ (lvS l f p).hi ∧ (lvS l f p).hi ≤ 4194304) ∧ (lvS l f p).lo ≤ (lvS l f p).hi := by
  obtain ⟨h1, h2⟩ := h.num
  exact dn_rng h.d h1 h2
/-- the level at the k-th point of a line, where there is one -/
def lvA (m : Msh) (p : Pnt) : Option Sp := (fdA m p).map fun i => lvS m.ss (fcA m.fs i) p
theorem lvA_none {m : Msh} {p : Pnt} : lvA m p = none ↔ fdA m p = none := by simp [lvA]
theorem lvA_bd {m : Msh} (hm : vM m = true) {p : Pnt} {s : Sp} (h : lvA m p = some s) : (-4194304 ≤ s.lo ∧ s.lo ≤ 4194304) ∧ (-4194304 ≤ s.hi ∧ s.hi ≤ 4194304) ∧ s.lo ≤ s.hi := by
  unfold lvA at h
  cases e : fdA m p with
  | none => rw [e] at h; cases h
  | some i =>
    rw [e] at h
    obtain ⟨hi, ho, _⟩ := fdA_some.1 e
    have ef : fcA m.fs i = m.fs[i] := by simp [fcA, hi]
    have h' : lvS m.ss (fcA m.fs i) p = s := Option.some.inj h
    rw [← h', ef]
    exact (onF_of (okF_of hm hi) ho).lv
def lvG (m : Msh) (a b : Pnt) (k : Nat) : Sp := (lvA m (ptA a b k)).getD Sp.zero
/-- the first n points of the line are on faces -/
def allL (m : Msh) (a b : Pnt) (n : Nat) : Bool := (List.range n).all fun k => (lvA m (ptA a b k)).isSome
def lvL (m : Msh) (a b : Pnt) (n : Nat) : List Sp := (List.range n).map (lvG m a b)
theorem lvL_succ (m : Msh) (a b : Pnt) (n : Nat) : lvL m a b (n + 1) = lvL m a b n ++ [lvG m a b n] := by simp [lvL, List.range_succ]
theorem allL_succ (m : Msh) (a b : Pnt) (n : Nat) : allL m a b (n + 1) = (allL m a b n && (lvA m (ptA a b n)).isSome) := by simp [allL, List.range_succ, List.all_append]
theorem allL_at {m : Msh} {a b : Pnt} {n k : Nat} (h : allL m a b n = true) (hk : k < n) : lvA m (ptA a b k) = some (lvG m a b k) := by
  have : (lvA m (ptA a b k)).isSome = true := by
    simp only [allL, List.all_eq_true, List.mem_range] at h
    exact h k hk
  unfold lvG
  cases e : lvA m (ptA a b k) with
  | none => rw [e] at this; cases this
  | some s => rfl
theorem lvG_bd {m : Msh} (hm : vM m = true) {a b : Pnt} {n k : Nat} (h : allL m a b n = true) (hk : k < n) : (-4194304 ≤ (lvG m a b k).lo ∧ (lvG m a b k).lo ≤ 4194304) ∧ (-4194304 ≤ (lvG m a b k).hi ∧ (lvG m a b k).hi ≤ 4194304) ∧ (lvG m a b k).lo ≤ (lvG m a b k).hi :=
  lvA_bd hm (allL_at h hk)
/-- the square of a distance -/
def sqD (a b : Pnt) : Int := (a.x - b.x) * (a.x - b.x) + (a.y - b.y) * (a.y - b.y)
theorem sqD_bd {a b : Pnt} (ha : a.in) (hb : b.in) : ((0 ≤ (a.x - b.x) * (a.x - b.x) ∧ (a.x - b.x) * (a.x - b.x) ≤ 1125899906842624) ∧ 0 ≤ (a.y - b.y) * (a.y - b.y) ∧ (a.y - b.y) * (a.y - b.y) ≤ 1125899906842624) ∧ 0 ≤ sqD a b ∧ sqD a b ≤ 2251799813685248 := by
  obtain ⟨⟨a1, a2⟩, a3, a4⟩ := ha
  obtain ⟨⟨b1, b2⟩, b3, b4⟩ := hb
  have m1 := mul_bd (x := a.x - b.x) (y := a.x - b.x) (n := 33554432) (by omega) (by omega)
  have m2 := mul_bd (x := a.y - b.y) (y := a.y - b.y) (n := 33554432) (by omega) (by omega)
  have sq : ∀ z : Int, 0 ≤ z * z := fun z => by
    rcases Int.lt_or_le z 0 with k | k
    · exact Int.le_of_lt (Int.mul_pos_of_neg_of_neg k k)
    · exact Int.mul_nonneg k k
  have p1 := sq (a.x - b.x)
  have p2 := sq (a.y - b.y)
  unfold sqD
  simp only [Nat.reduceMul] at m1 m2
  omega
def dsS (a b : Pnt) : Sp := ⟨isq (sqD a b), isqU (sqD a b)⟩
theorem dsS_bd {a b : Pnt} (ha : a.in) (hb : b.in) : 0 ≤ (dsS a b).lo ∧ (dsS a b).lo ≤ (dsS a b).hi ∧ (dsS a b).hi ≤ 67108864 := by
  obtain ⟨_, h0, h1⟩ := sqD_bd ha hb
  obtain ⟨k0, k1, k2⟩ := isq_bd h0
  have k3 : isq (sqD a b) < 67108863 := sq_lt k0 (by omega) (by omega)
  refine ⟨k0, ?_, ?_⟩ <;> simp only [dsS, isqU] <;> split <;> omega
/-- twice for an inner point -/
def tms (k : Nat) : Int := if k = 0 ∨ k = 16 then 1 else 2
/-- the heights of a pipe at the k-th point, down and up from its upper end -/
def pLo (u d : Int) (k : Nat) : Int := dn ((d - u) * (k : Int)) 16
def pHi (u d : Int) (k : Nat) : Int := up ((d - u) * (k : Int)) 16
theorem pip_bd {u d : Int} (hu : -4194304 ≤ u ∧ u ≤ 4194304) (hd : -4194304 ≤ d ∧ d ≤ 4194304) {k : Nat} (hk : k ≤ 16) : (-134217728 ≤ (d - u) * (k : Int) ∧ (d - u) * (k : Int) ≤ 134217728) ∧ (-8388608 ≤ pLo u d k ∧ pLo u d k ≤ 8388608) ∧ (-8388608 ≤ pHi u d k ∧ pHi u d k ≤ 8388608) ∧ pLo u d k ≤ pHi u d k := by
  obtain ⟨h1, h2⟩ := part_bd (d := d - u) hk
  have h : -134217728 ≤ (d - u) * (k : Int) ∧ (d - u) * (k : Int) ≤ 134217728 := by
    generalize (d - u) * (k : Int) = t at *
    omega
  exact ⟨h, dn_rng (z := 8388608) (by omega) (by omega) (by omega)⟩
def cvL (m : Msh) (a b : Pnt) (u d : Int) (k : Nat) : Int := tms k * max 0 ((lvG m a b k).lo - u - pHi u d k)
def cvH (m : Msh) (a b : Pnt) (u d : Int) (k : Nat) : Int := tms k * max 0 ((lvG m a b k).hi - u - pLo u d k)
def smL (m : Msh) (a b : Pnt) (u d : Int) : Nat → Int
  | 0 => 0
  | n + 1 => smL m a b u d n + cvL m a b u d n
def smH (m : Msh) (a b : Pnt) (u d : Int) : Nat → Int
  | 0 => 0
  | n + 1 => smH m a b u d n + cvH m a b u d n
theorem tms_two (k : Nat) : tms k = 1 ∨ tms k = 2 := by unfold tms; split <;> simp
theorem cv_bd {m : Msh} (hm : vM m = true) {a b : Pnt} {u d : Int} (hu : -4194304 ≤ u ∧ u ≤ 4194304) (hd : -4194304 ≤ d ∧ d ≤ 4194304) {n k : Nat} (h : allL m a b n = true) (hk : k < n) (hk' : k ≤ 16) :
    0 ≤ cvL m a b u d k ∧ cvL m a b u d k ≤ cvH m a b u d k ∧ cvH m a b u d k ≤ 33554432 := by
  obtain ⟨⟨l1, l2⟩, ⟨l3, l4⟩, l5⟩ := lvG_bd hm h hk
  obtain ⟨_, ⟨p1, p2⟩, ⟨p3, p4⟩, p5⟩ := pip_bd hu hd hk'
  unfold cvL cvH
  rcases tms_two k with e | e <;> rw [e] <;> omega
theorem sm_bd {m : Msh} (hm : vM m = true) {a b : Pnt} {u d : Int} (hu : -4194304 ≤ u ∧ u ≤ 4194304) (hd : -4194304 ≤ d ∧ d ≤ 4194304) {n : Nat} (h : allL m a b n = true) : ∀ k : Nat, k ≤ n → k ≤ 17 →
    0 ≤ smL m a b u d k ∧ smL m a b u d k ≤ smH m a b u d k ∧ smH m a b u d k ≤ 33554432 * (k : Int)
  | 0, _, _ => by simp [smL, smH]
  | k + 1, hk, hk' => by
    have i := sm_bd hm hu hd h k (by omega) (by omega)
    have c := cv_bd hm hu hd h (k := k) (by omega) (by omega)
    simp only [smL, smH]
    omega
/-- the volume of a trench -/
def trS (m : Msh) (a b : Pnt) (u d wd : Int) : Sp := ⟨dn (smL m a b u d 17 * ((dsS a b).lo * wd)) 32000, up (smH m a b u d 17 * ((dsS a b).hi * wd)) 32000⟩
def lvlB (n : Int) : Bool := decide (-4194304 ≤ n) && decide (n ≤ 4194304)
def widB (n : Int) : Bool := decide (1 ≤ n) && decide (n ≤ 10000)
def rngB (u d wd : Int) : Bool := lvlB u && lvlB d && widB wd
theorem rngB_iff {u d wd : Int} : rngB u d wd = true ↔ (-4194304 ≤ u ∧ u ≤ 4194304) ∧ (-4194304 ≤ d ∧ d ≤ 4194304) ∧ 1 ≤ wd ∧ wd ≤ 10000 := by
  simp only [rngB, lvlB, widB, Bool.and_eq_true, decide_eq_true_eq]; omega
/-- the error of a surface and a line -/
def gvE (m : Msh) (a b : Pnt) : Int := if (vM m && inP a && inP b) = true then if a = b then 25 else 0 else 1
def trE (m : Msh) (a b : Pnt) (u d wd : Int) : Int := if gvE m a b = 0 then if rngB u d wd = true then if allL m a b 17 = true then 0 else 12 else 2 else gvE m a b
def trR (m : Msh) (a b : Pnt) (u d wd : Int) : Sp := if trE m a b u d wd = 0 then trS m a b u d wd else Sp.zero
theorem trE_ok {m : Msh} {a b : Pnt} {u d wd : Int} (h : trE m a b u d wd = 0) : vM m = true ∧ a.in ∧ b.in ∧ a ≠ b ∧ rngB u d wd = true ∧ allL m a b 17 = true := by
  unfold trE gvE at h
  by_cases h1 : (vM m && inP a && inP b) = true
  · rw [if_pos h1] at h
    by_cases h2 : a = b
    · simp [h2] at h
    · simp only [h2, if_false, if_true] at h
      by_cases h3 : rngB u d wd = true
      · rw [if_pos h3] at h
        by_cases h4 : allL m a b 17 = true
        · simp only [Bool.and_eq_true] at h1
          exact ⟨h1.1.1, inP_iff.1 h1.1.2, inP_iff.1 h1.2, h2, h3, h4⟩
        · simp [h4] at h
      · simp [h3] at h
  · simp [h1] at h
end Go.Proofs.YtlnlaopokelggaaGreatDoor

namespace Go.Proofs.YtlnlaopokelggaaGreatDoor

/-- a wide integer as the program has it: its magnitude in two words, and whether it is negative -/
abbrev WN (v : Int) : Value := .agg #[.int .u64 ((v.natAbs / 18446744073709551616 : Nat) : Int), .int .u64 ((v.natAbs % 18446744073709551616 : Nat) : Int), .bool (decide (v < 0))]
def i64B (x : Int) : Bool := decide (-9223372036854775808 ≤ x ∧ x ≤ 9223372036854775807)
theorem i64B_iff {x : Int} : i64B x = true ↔ -9223372036854775808 ≤ x ∧ x ≤ 9223372036854775807 := by simp [i64B]
/-- a quotient rounded down or up -/
def quo (v b : Int) (u : Bool) : Int := if u = true then up v b else dn v b
def i64E (x : Int) : Int := if i64B x = true then 0 else 5
def i64V (x : Int) : Int := if i64B x = true then x else 0
theorem i64_yes {x : Int} (h : i64B x = true) : i64E x = 0 ∧ i64V x = x := by simp [i64E, i64V, h]
theorem i64_no {x : Int} (h : i64B x = false) : i64E x = 5 ∧ i64V x = 0 := by simp [i64E, i64V, h]
/-- what a magnitude with a sign is as an int -/
def sgn (n : Int) (b : Bool) : Int := if b = true then -n else n
def magn (v b : Int) (u : Bool) : Nat := v.natAbs / b.natAbs + (if v.natAbs % b.natAbs ≠ 0 ∧ ((decide (v < 0) != decide (b < 0)) != u) = true then 1 else 0)
theorem sgn_form (v : Int) : ∃ s : Int, (s = 1 ∨ s = -1) ∧ v = s * (v.natAbs : Int) ∧ (v < 0 ↔ s = -1) := by
  by_cases h : v < 0
  · exact ⟨-1, .inr rfl, by omega, by simp [h]⟩
  · exact ⟨1, .inl rfl, by omega, by simp [h]⟩
theorem quo_magn {v b : Int} (hb : b ≠ 0) (u : Bool) : quo v b u = if (decide (v < 0) != decide (b < 0)) = true then -(magn v b u : Int) else (magn v b u : Int) := by
  obtain ⟨s, hs, ev, hv⟩ := sgn_form v
  obtain ⟨t, ht, eb, hb'⟩ := sgn_form b
  have hd : 0 < b.natAbs := by omega
  have d1 := dn_mag (m := v.natAbs) hd s hs t ht
  have d2 := dn_mag (m := v.natAbs) hd (-s) (by omega) t ht
  rw [← ev, ← eb] at d1
  rw [← eb, show -s * (v.natAbs : Int) = -v by rw [Int.neg_mul, ← ev]] at d2
  unfold quo magn up
  rw [d1, d2]
  have e1 : decide (v < 0) = decide (s = -1) := decide_eq_decide.2 hv
  have e2 : decide (b < 0) = decide (t = -1) := decide_eq_decide.2 hb'
  rw [e1, e2]
  generalize v.natAbs / b.natAbs = q
  generalize v.natAbs % b.natAbs = r
  by_cases hr : r = 0
  · subst hr
    rcases hs with rfl | rfl <;> rcases ht with rfl | rfl <;> cases u <;> simp
  · rcases hs with rfl | rfl <;> rcases ht with rfl | rfl <;> cases u <;> simp [hr]
theorem mul_neg_iff (a b : Int) : decide (a * b < 0) = ((decide (a < 0) != decide (b < 0)) && decide (a * b ≠ 0)) := by
  rcases Int.lt_trichotomy a 0 with ha | ha | ha
  · rcases Int.lt_trichotomy b 0 with hb | hb | hb
    · have := Int.mul_pos_of_neg_of_neg ha hb
      simp [ha, hb]; omega
    · subst hb; simp
    · have := Int.mul_neg_of_neg_of_pos ha hb
      have h2 : ¬ b < 0 := by omega
      have h3 : a * b ≠ 0 := by omega
      simp [ha, h2, h3, this]
  · subst ha; simp
  · rcases Int.lt_trichotomy b 0 with hb | hb | hb
    · have := Int.mul_neg_of_pos_of_neg ha hb
      have h2 : ¬ a < 0 := by omega
      have h3 : a * b ≠ 0 := by omega
      simp [hb, h2, h3, this]
    · subst hb; simp
    · have := Int.mul_pos ha hb
      have h2 : ¬ a < 0 := by omega
      have h3 : ¬ b < 0 := by omega
      simp [h2, h3]; omega
theorem split_zero (n : Nat) : (((n / 18446744073709551616 : Nat) : Int) != 0 || ((n % 18446744073709551616 : Nat) : Int) != 0) = decide (n ≠ 0) := by
  rw [Bool.eq_iff_iff]; simp; omega
theorem wn_mul (a b : Int) : WN (a * b) = .agg #[.int .u64 ((a.natAbs * b.natAbs / 18446744073709551616 : Nat) : Int), .int .u64 ((a.natAbs * b.natAbs % 18446744073709551616 : Nat) : Int), .bool ((decide (a < 0) != decide (b < 0)) && (((a.natAbs * b.natAbs / 18446744073709551616 : Nat) : Int) != 0 || ((a.natAbs * b.natAbs % 18446744073709551616 : Nat) : Int) != 0))] := by
  have hN : (a * b).natAbs = a.natAbs * b.natAbs := Int.natAbs_mul a b
  rw [split_zero (a.natAbs * b.natAbs)]
  show Value.agg _ = _
  rw [mul_neg_iff a b, hN]
  have e : decide (a * b ≠ 0) = decide (a.natAbs * b.natAbs ≠ 0) := decide_eq_decide.2 (by omega)
  rw [e]
/-- n num / den, rounded down and up -/
def scE (n m d : Int) : Int := if d = 0 then 16 else if i64B (dn (n * m) d) = true ∧ i64B (up (n * m) d) = true then 0 else 5
def scLo (n m d : Int) : Int := if d ≠ 0 ∧ i64B (dn (n * m) d) = true ∧ i64B (up (n * m) d) = true then dn (n * m) d else 0
def scHi (n m d : Int) : Int := if d ≠ 0 ∧ i64B (dn (n * m) d) = true ∧ i64B (up (n * m) d) = true then up (n * m) d else 0
end Go.Proofs.YtlnlaopokelggaaGreatDoor
