/- What Check holds in its second loop, as one; what each step leaves; the sides that are taken; the triangles that are sound. -/
import Derived.Test.YtlnlaopokelggaaGreatDoorPkCostsTexts9
import Derived.Test.YtlnlaopokelggaaGreatDoorPkCostsTexts2
namespace Go.Proofs.YtlnlaopokelggaaGreatDoor
open Go Go.RowKit

def flatT (l : List Tri) : List Value := l.flatMap Tri.cells
theorem flatT_append (a b : List Tri) : flatT (a ++ b) = flatT a ++ flatT b := by simp [flatT]
theorem flatT_len (l : List Tri) : (flatT l).length = l.length * 6 := by
  induction l with
  | nil => rfl
  | cons c l ih => simp only [flatT, List.flatMap_cons, List.length_append, List.length_cons] at ih ⊢; rw [ih]; simp; omega
theorem flatT_at : ∀ (l : List Tri) (i : Nat) (h : i < l.length), (flatT l)[i * 6]? = some (.int .i64 l[i].p.x) ∧ (flatT l)[i * 6 + 1]? = some (.int .i64 l[i].p.y) ∧ (flatT l)[i * 6 + 2]? = some (.int .i64 l[i].q.x) ∧ (flatT l)[i * 6 + 3]? = some (.int .i64 l[i].q.y) ∧ (flatT l)[i * 6 + 4]? = some (.int .i64 l[i].r.x) ∧ (flatT l)[i * 6 + 5]? = some (.int .i64 l[i].r.y)
  | [], i, h => absurd h (by simp)
  | c :: l, 0, _ => ⟨rfl, rfl, rfl, rfl, rfl, rfl⟩
  | c :: l, i + 1, h => by
    have ih := flatT_at l i (by simpa using h)
    have e : flatT (c :: l) = c.cells ++ flatT l := rfl
    have k : ∀ j, (flatT (c :: l))[(i + 1) * 6 + j]? = (flatT l)[i * 6 + j]? := fun j => by
      rw [e, List.getElem?_append_right (by simp; omega)]
      congr 1
      simp; omega
    exact ⟨(k 0).trans ih.1, (k 1).trans ih.2.1, (k 2).trans ih.2.2.1, (k 3).trans ih.2.2.2.1, (k 4).trans ih.2.2.2.2.1, (k 5).trans ih.2.2.2.2.2⟩
theorem TriSl.of_row {w : World} {base : Nat} {e : TypeId} {v : Value} {n : Nat} {l : List Tri} (h : w.ownsRow base e 6 v n (flatT l)) (hb : l.length ≤ 9223372036854775807) : ∃ A c, v = .slice A l.length c ∧ TriSl w A l := by
  have hn : l.length = n := by have := h.1; rw [flatT_len] at this; omega
  rcases h.2 with ⟨rfl, h0⟩ | ⟨g, cap, cur, rfl, hg, hcell, hnc, _, hsz, htake⟩
  · rw [h0] at hn
    have : l = [] := List.eq_nil_of_length_eq_zero hn
    subst this
    exact ⟨none, 0, rfl, by simp, fun h => by simp at h⟩
  · subst hn
    refine ⟨some ⟨g, 0, none⟩, cap, rfl, hb, fun _ => ⟨g, 0, rfl, (Array.getElem?_eq_some_iff.1 hcell).1, fun i hi => ?_⟩⟩
    have k := fun j u (hu : (flatT l)[j]? = some u) => (show w.cell? ⟨g, 0 + j, none⟩ = some u by
      have hc := h.cells (g := g) rfl j u hu
      have e : (⟨g, 0, none⟩ : Addr).add j = ⟨g, 0 + j, none⟩ := by unfold Addr.add; split <;> simp_all
      rw [e] at hc
      exact hc)
    obtain ⟨a0, a1, a2, a3, a4, a5⟩ := flatT_at l i hi
    exact ⟨k _ _ a0, k _ _ a1, k _ _ a2, k _ _ a3, k _ _ a4, k _ _ a5⟩
/-- rows of two types lie in different blocks -/
theorem rows_ne {W : World} {B B' e e' sz sz' n n' : Nat} {v v' : Value} {xs xs' : List Value} (h : W.ownsRow B e sz v n xs) (h' : W.ownsRow B' e' sz' v' n' xs') (hne : e ≠ e') : v.ownBlock = none ∨ v.ownBlock ≠ v'.ownBlock := by
  rcases h.2 with ⟨rfl, _⟩ | ⟨g, cap, cur, rfl, _, hg, _⟩
  · exact .inl rfl
  · rcases h'.2 with ⟨rfl, _⟩ | ⟨g', cap', cur', rfl, _, hg', _⟩
    · exact .inr (by simp [Value.ownBlock])
    · refine .inr fun e2 => ?_
      have e3 : g = g' := by simpa [Value.ownBlock] using e2
      rw [e3, hg'] at hg
      simp at hg
      exact hne hg.2.symm
theorem tri_infoM : (Tryz.prog.info? 147).map (fun i => (i.zero, i.size, i.bytes)) = some (some (.agg #[.int .i64 0, .int .i64 0, .int .i64 0, .int .i64 0, .int .i64 0, .int .i64 0]), 6, 48) := by kernel_rfl
/-- what Check holds in its second loop -/
structure St (w W : World) (bF : Nat) (C : List (Nat × TypeId × Array Value)) (f : Nat → Value) (L : Nat → List Nat) (bT n : Nat) (D : DataW Unit) (v : Value) (l : List Tri) : Prop where
  own : Own w W ((bF, 136, cF f) :: C)
  six : Six W w.heap.size f L
  mp : MapB W 150 bT n D
  snd : W.ownsRow w.heap.size 147 6 v l.length (flatT l)
  ty : ∀ x ∈ C, 3 ≠ x.2.1
  ne : ∀ x ∈ C, x.1 ≠ bF
  bF : w.heap.size ≤ bF
  bT : w.heap.size ≤ bT
section
variable {w W W' : World} {bF : Nat} {C : List (Nat × TypeId × Array Value)} {f : Nat → Value} {L : Nat → List Nat} {bT n : Nat} {D : DataW Unit} {v : Value} {l : List Tri}
theorem St.to (h : St w W bF C f L bT n D v l) (hb : Below W.heap.size W W') : St w W' bF C f L bT n D v l :=
  ⟨h.own.to hb, h.six.to hb, h.mp.to hb, row_below h.snd hb, h.ty, h.ne, h.bF, h.bT⟩
theorem St.tail {x : Nat × TypeId × Array Value} (h : St w W bF (x :: C) f L bT n D v l) : St w W bF C f L bT n D v l :=
  ⟨h.own.swap.tail, h.six, h.mp, h.snd, fun y hy => h.ty y (List.mem_cons_of_mem _ hy), fun y hy => h.ne y (List.mem_cons_of_mem _ hy), h.bF, h.bT⟩
theorem St.alloc (h : St w W bF C f L bT n D v l) (cs : Array Value) (t : TypeId) (h1 : 3 ≠ t) : St w (W.alloc (.cells cs t)) bF ((W.heap.size, t, cs) :: C) f L bT n D v l :=
  have hb : Below W.heap.size W (W.alloc (.cells cs t)) := (Below.refl _ _).alloc (Nat.le_refl _) _
  ⟨(h.own.alloc cs t).swap, h.six.to hb, h.mp.to hb, row_below h.snd hb, fun x hx => by
      rcases List.mem_cons.1 hx with rfl | hx
      · exact h1
      · exact h.ty x hx, fun x hx => by
      rcases List.mem_cons.1 hx with rfl | hx
      · have := h.own.r1.2.2
        show W.heap.size ≠ bF
        omega
      · exact h.ne x hx, h.bF, h.bT⟩
theorem St.notF (h : St w W bF C f L bT n D v l) : bT ≠ bF := fun e => by
  obtain ⟨es, c, he⟩ := h.mp.blk
  have := h.own.2 (bF, 136, cF f) (List.mem_cons_self ..)
  unfold Blk at this
  rw [e] at he
  rw [he] at this
  cases this
/-- one more finding of a kind: the row grows, and its name is stored -/
theorem St.app (h : St w W bF C f L bT n D v l) {k x g c : Nat} (hk : k < 7)
    (hown : W'.ownsRow w.heap.size 3 1 (.slice (some ⟨g, 0, none⟩) ((L k).length + 1) c) ((L k).length + 1) (natV (L k) ++ [.int .i64 (x : Int)]))
    (hg : (W.alloc (.cells #[.int .i64 (x : Int)] 3)).grownBy W' (f k).ownBlock) (hv : (f k).ownBlock = some g ∨ g = W.heap.size + 1) :
    St w (W'.setCell ⟨bF, k, none⟩ (.slice (some ⟨g, 0, none⟩) ((L k).length + 1) c)) bF C (upF f k (.slice (some ⟨g, 0, none⟩) ((L k).length + 1) c)) (upF L k (L k ++ [x])) bT n D v l := by
  have hb : Below W.heap.size W (W.alloc (.cells #[.int .i64 (x : Int)] 3)) := (Below.refl _ _).alloc (Nat.le_refl _) _
  have r0 := (h.six.to hb).row k hk
  have O4 := (h.own.alloc #[.int .i64 (x : Int)] 3).tail.grown r0 hg (fun x hx => by
    rcases List.mem_cons.1 hx with rfl | hx
    · exact (show (3 : Nat) ≠ 136 by decide)
    · exact h.ty x hx)
  have B4 : Blk W' bF 136 (cF f) := O4.2 _ (List.mem_cons_self ..)
  have s4 := (h.six.to hb).app hk hown hg (by simpa using hv)
  have t4 := (row_below h.snd hb).kept hg (rows_ne (row_below h.snd hb) r0 (by decide))
  refine ⟨?_, s4.set B4 (by decide) k _, ((h.mp.to hb).row r0 hg).setCell (by exact h.notF) _, row_set t4 B4 (by decide) k _, h.ty, h.ne, h.bF, h.bT⟩
  have := O4.set0 h.bF h.ne k (.slice (some ⟨g, 0, none⟩) ((L k).length + 1) c)
  rwa [cF_set f hk] at this
/-- a store into the map -/
theorem St.put (h : St w W bF C f L bT n D v l) {n' : Nat} {D' : DataW Unit} (hm : MapB W' 150 bT n' D') (hg : W.grownBy W' (some bT)) : St w W' bF C f L bT n' D' v l :=
  ⟨h.own.gmap h.mp h.bT hg, h.six.gmap h.mp hg, hm, row_gmap h.mp hg h.snd, h.ty, h.ne, h.bF, h.bT⟩
theorem St.len (h : St w W bF C f L bT n D v l) {m : Nat} (hm : n ≤ m) : St w W bF C f L bT m D v l := ⟨h.own, h.six, h.mp.mono hm, h.snd, h.ty, h.ne, h.bF, h.bT⟩
/-- one more sound triangle -/
theorem St.more (h : St w W bF C f L bT n D v l) (hty : ∀ x ∈ C, 147 ≠ x.2.1) {t : Tri} {v' : Value} (hown : W'.ownsRow w.heap.size 147 6 v' (l.length + 1) (flatT l ++ t.cells))
    (hg : (W.alloc (.cells t.cells.toArray 147)).grownBy W' v.ownBlock) : St w W' bF C f L bT n D v' (l ++ [t]) := by
  have hb : Below W.heap.size W (W.alloc (.cells t.cells.toArray 147)) := (Below.refl _ _).alloc (Nat.le_refl _) _
  have r0 := row_below h.snd hb
  refine ⟨(h.own.to hb).grown r0 hg (fun x hx => ?_), (h.six.to hb).kept hg (fun k hk => rows_ne ((h.six.to hb).row k hk) r0 (by decide)), (h.mp.to hb).row r0 hg, ?_, h.ty, h.ne, h.bF, h.bT⟩
  · rcases List.mem_cons.1 hx with rfl | hx
    · exact (show (147 : Nat) ≠ 136 by decide)
    · exact hty x hx
  · rw [flatT_append, List.length_append]
    simpa [flatT] using hown
end
/-- the sides that are taken -/
def klS (p : Int × Int) : Lit := .string (keyBytes [.int .i64 p.1, .int .i64 p.2])
theorem klS_is (p : Int × Int) : WideAt.IsKeyLit (klS p) := by unfold klS; trivial
def inS (p : Int × Int) : Prop := i64 p.1 ∧ i64 p.2
theorem klS_key {p : Int × Int} (h : inS p) : keyOf Tryz.prog 150 (.agg #[.int .i64 p.1, .int .i64 p.2]) = some (klS p) := sd_key p.1 p.2 h.1 h.2
theorem klS_inj {p q : Int × Int} (hp : inS p) (hq : inS q) (h : klS p = klS q) : p = q := by
  have h1 := klS_key hp
  have h2 := klS_key hq
  rw [h] at h1
  have e := sd_keyed.inj h1 h2
  obtain ⟨a, b⟩ := p
  obtain ⟨c, d⟩ := q
  simp at e
  rw [e.1, e.2]
theorem cnB_in {l : List Spt} {i : Int} (hl : l.length ≤ 2000) (h : cnB l i = true) : (0 ≤ i ∧ i < l.length) ∧ (i64 i ∧ okS (spA l i) = true) := by
  simp only [cnB, Bool.and_eq_true, decide_eq_true_eq] at h
  unfold i64
  refine ⟨h.1, ?_, h.2⟩
  omega
theorem crB_cn {l : List Spt} {f : Fce} (h : crB l f = true) : cnB l f.a = true ∧ cnB l f.b = true ∧ cnB l f.c = true := by
  simp only [crB, Bool.and_eq_true] at h
  exact ⟨h.1.1.1.1.1.1.1, h.1.1.1.1.1.1.2, h.1.1.1.1.1.2⟩
theorem sd_in {l : List Spt} {f : Fce} (hl : l.length ≤ 2000) (h : crB l f = true) (m : Nat) : inS (sdA f m) := by
  obtain ⟨a, b, c⟩ := crB_cn h
  have ia := (cnB_in hl a).2.1
  have ib := (cnB_in hl b).2.1
  have ic := (cnB_in hl c).2.1
  unfold inS
  match m with
  | 0 => exact ⟨ia, ib⟩
  | 1 => exact ⟨ib, ic⟩
  | m + 2 => exact ⟨ic, ia⟩
theorem tri_in {l : List Spt} {f : Fce} (hl : l.length ≤ 2000) (h : crB l f = true) : (triA l f).in := by
  obtain ⟨a, b, c⟩ := crB_cn h
  exact ⟨okS_in (cnB_in hl a).2.2, okS_in (cnB_in hl b).2.2, okS_in (cnB_in hl c).2.2⟩
def sidesP (ss : List Spt) (fs : List Fce) (k : Nat) (t : Lit) : Prop := ∃ i ∈ snd ss fs k, ∃ m, m < 3 ∧ t = klS (sdA (fcA fs i) m)
theorem snd_mem {ss : List Spt} {fs : List Fce} {k i : Nat} (h : i ∈ snd ss fs k) : i < k ∧ crB ss (fcA fs i) = true ∧ posB ss (fcA fs i) = true := by
  simpa [snd, and_assoc] using h
theorem snd_no {ss : List Spt} {fs : List Fce} {k : Nat} (h : (crB ss (fcA fs k) && posB ss (fcA fs k)) = false) : snd ss fs (k + 1) = snd ss fs k := by
  unfold snd; rw [filt_s, if_neg (by rw [h]; simp), List.append_nil]
theorem snd_yes {ss : List Spt} {fs : List Fce} {k : Nat} (h : (crB ss (fcA fs k) && posB ss (fcA fs k)) = true) : snd ss fs (k + 1) = snd ss fs k ++ [k] := by
  unfold snd; rw [filt_s, if_pos h]
theorem sidesP_no {ss : List Spt} {fs : List Fce} {k : Nat} (h : (crB ss (fcA fs k) && posB ss (fcA fs k)) = false) : sidesP ss fs (k + 1) = sidesP ss fs k := by
  unfold sidesP; rw [snd_no h]
theorem sidesP_yes {ss : List Spt} {fs : List Fce} {k : Nat} (h : (crB ss (fcA fs k) && posB ss (fcA fs k)) = true) : sidesP ss fs (k + 1) = fun t => (∃ m, m < 3 ∧ t = klS (sdA (fcA fs k) m)) ∨ sidesP ss fs k t := by
  funext t
  apply propext
  unfold sidesP
  rw [snd_yes h]
  simp only [List.mem_append, List.mem_singleton]
  constructor
  · rintro ⟨i, hi | rfl, r⟩
    · exact .inr ⟨i, hi, r⟩
    · exact .inl r
  · rintro (r | ⟨i, hi, r⟩)
    · exact ⟨k, .inr rfl, r⟩
    · exact ⟨i, .inl hi, r⟩
theorem sides_any {ss : List Spt} {fs : List Fce} (hl : ss.length ≤ 2000) {k : Nat} (h : crB ss (fcA fs k) = true) {c0 c1 c2 : Bool} (h0 : c0 = true ↔ sidesP ss fs k (klS (sdA (fcA fs k) 0))) (h1 : c1 = true ↔ sidesP ss fs k (klS (sdA (fcA fs k) 1))) (h2 : c2 = true ↔ sidesP ss fs k (klS (sdA (fcA fs k) 2))) :
    (c0 || c1 || c2) = (snd ss fs k).any fun i => ssB (fcA fs k) (fcA fs i) := by
  have key : ∀ m, m < 3 → (sidesP ss fs k (klS (sdA (fcA fs k) m)) ↔ ∃ i ∈ snd ss fs k, ∃ m', m' < 3 ∧ sdA (fcA fs k) m = sdA (fcA fs i) m') := fun m hm => by
    constructor
    · rintro ⟨i, hi, m', hm', e⟩
      exact ⟨i, hi, m', hm', klS_inj (sd_in hl h m) (sd_in hl (snd_mem hi).2.1 m') e⟩
    · rintro ⟨i, hi, m', hm', e⟩
      exact ⟨i, hi, m', hm', by rw [e]⟩
  rw [key 0 (by omega)] at h0
  rw [key 1 (by omega)] at h1
  rw [key 2 (by omega)] at h2
  rw [Bool.eq_iff_iff]
  simp only [Bool.or_eq_true, h0, h1, h2, List.any_eq_true, ssB, List.mem_range, decide_eq_true_eq]
  constructor
  · rintro ((⟨i, hi, m', hm', e⟩ | ⟨i, hi, m', hm', e⟩) | ⟨i, hi, m', hm', e⟩)
    · exact ⟨i, hi, 0, by omega, m', hm', e⟩
    · exact ⟨i, hi, 1, by omega, m', hm', e⟩
    · exact ⟨i, hi, 2, by omega, m', hm', e⟩
  · rintro ⟨i, hi, m, hm, m', hm', e⟩
    obtain rfl | rfl | rfl : m = 0 ∨ m = 1 ∨ m = 2 := by omega
    · exact .inl (.inl ⟨i, hi, m', hm', e⟩)
    · exact .inl (.inr ⟨i, hi, m', hm', e⟩)
    · exact .inr ⟨i, hi, m', hm', e⟩
theorem sides_step (S : Lit → Prop) (f : Fce) (m : Nat) : (fun t => t = klS (sdA f m) ∨ ((∃ i, i < m ∧ t = klS (sdA f i)) ∨ S t)) = fun t => (∃ i, i < m + 1 ∧ t = klS (sdA f i)) ∨ S t := by
  funext t
  apply propext
  constructor
  · rintro (h | ⟨i, hi, h⟩ | h)
    · exact .inl ⟨m, by omega, h⟩
    · exact .inl ⟨i, by omega, h⟩
    · exact .inr h
  · rintro (⟨i, hi, h⟩ | h)
    · by_cases e : i = m
      · subst e; exact .inl h
      · exact .inr (.inl ⟨i, by omega, h⟩)
    · exact .inr (.inr h)
def sndT (ss : List Spt) (fs : List Fce) (k : Nat) : List Tri := (snd ss fs k).map fun i => triA ss (fcA fs i)
theorem sndT_in {ss : List Spt} {fs : List Fce} (hl : ss.length ≤ 2000) {k : Nat} : ∀ o ∈ sndT ss fs k, Tri.in o := by
  intro o ho
  obtain ⟨i, hi, rfl⟩ := List.mem_map.1 ho
  exact tri_in hl (snd_mem hi).2.1
theorem sndT_len {ss : List Spt} {fs : List Fce} {k : Nat} : (sndT ss fs k).length ≤ k := by
  unfold sndT snd
  rw [List.length_map]
  have := List.length_filter_le (fun i => crB ss (fcA fs i) && posB ss (fcA fs i)) (List.range k)
  simpa using this
theorem lit_bool_inj {c c' : Bool} (h : (DataW.lit (.bool c) : DataW Unit) = .lit (.bool c')) : c = c' := by
  injection h with h
  injection h
/-- look-up with the answer ahead of the world -/
theorem says_ahead {k t : TypeId} {D : DataW Unit} {key : Lit → Prop} (K : Maps.Keyed Tryz.prog k) (ht : Tryz.prog.underlying t = some (.map k 4)) (hs : Says D key) {kv : Value} {kl : Lit} (hkey : keyOf Tryz.prog k kv = some kl) :
    ∃ c : Bool, (c = true ↔ key kl) ∧ ∀ (W : World) (b n : Nat), MapB W k b n D → (Instr.lookup t (.map (some b)) kv false).run Tryz.prog W = .ok (.bool c) W := by
  obtain ⟨c, h3, h4⟩ := hs.2 kl (K.key hkey)
  refine ⟨c, h4, fun W b n hm => ?_⟩
  obtain ⟨c', h1, h2⟩ := hm.look K ht hkey
  have e : c = c' := lit_bool_inj (h3.symm.trans h2)
  rw [e]
  exact h1
/-- the rows in the second loop -/
def Rows2 (ss : List Spt) (fs : List Fce) (k : Nat) (L : Nat → List Nat) : Prop :=
  L 0 = [] ∧ L 1 = fin1 ss ss.length ∧ L 2 = fin2 ss ss.length ∧ L 3 = fin3 ss fs k ∧ L 4 = fin4 ss fs k ∧ L 5 = fin5 ss fs k ∧ L 6 = fin6 ss fs k
theorem rows_bad {ss : List Spt} {fs : List Fce} {k : Nat} {L : Nat → List Nat} (h : Rows2 ss fs k L) (hc : crB ss (fcA fs k) = false) : Rows2 ss fs (k + 1) (upF L 3 (L 3 ++ [k])) := by
  obtain ⟨h0, h1, h2, h3, h4, h5, h6⟩ := h
  refine ⟨h0, h1, h2, ?_, ?_, ?_, ?_⟩
  · show L 3 ++ [k] = _; rw [h3]; unfold fin3; rw [filt_s, if_pos (by simp [hc])]
  · show L 4 = _; rw [h4]; unfold fin4; rw [filt_s, if_neg (by simp [hc]), List.append_nil]
  · show L 5 = _; rw [h5]; unfold fin5; rw [filt_s, if_neg (by simp [hc]), List.append_nil]
  · show L 6 = _; rw [h6]; unfold fin6; rw [filt_s, if_neg (by simp [hc]), List.append_nil]
theorem rows_flat {ss : List Spt} {fs : List Fce} {k : Nat} {L : Nat → List Nat} (h : Rows2 ss fs k L) (hc : crB ss (fcA fs k) = true) (hp : posB ss (fcA fs k) = false) : Rows2 ss fs (k + 1) (upF L 4 (L 4 ++ [k])) := by
  obtain ⟨h0, h1, h2, h3, h4, h5, h6⟩ := h
  refine ⟨h0, h1, h2, ?_, ?_, ?_, ?_⟩
  · show L 3 = _; rw [h3]; unfold fin3; rw [filt_s, if_neg (by simp [hc]), List.append_nil]
  · show L 4 ++ [k] = _; rw [h4]; unfold fin4; rw [filt_s, if_pos (by simp [hc, hp])]
  · show L 5 = _; rw [h5]; unfold fin5; rw [filt_s, if_neg (by simp [hp]), List.append_nil]
  · show L 6 = _; rw [h6]; unfold fin6; rw [filt_s, if_neg (by simp [hp]), List.append_nil]
/-- the rows when the sides of a sound face have been looked at -/
def Rows3 (ss : List Spt) (fs : List Fce) (k : Nat) (L : Nat → List Nat) : Prop :=
  L 0 = [] ∧ L 1 = fin1 ss ss.length ∧ L 2 = fin2 ss ss.length ∧ L 3 = fin3 ss fs (k + 1) ∧ L 4 = fin4 ss fs (k + 1) ∧ L 5 = fin5 ss fs (k + 1) ∧ L 6 = fin6 ss fs k
theorem rows_5 {ss : List Spt} {fs : List Fce} {k : Nat} {L : Nat → List Nat} (h : Rows2 ss fs k L) (hc : crB ss (fcA fs k) = true) (hp : posB ss (fcA fs k) = true) {a : Bool} (ha : a = (snd ss fs k).any fun i => ssB (fcA fs k) (fcA fs i)) :
    (a = true → Rows3 ss fs k (upF L 5 (L 5 ++ [k]))) ∧ (a = false → Rows3 ss fs k L) := by
  obtain ⟨h0, h1, h2, h3, h4, h5, h6⟩ := h
  have e3 : L 3 = fin3 ss fs (k + 1) := by rw [h3]; unfold fin3; rw [filt_s, if_neg (by simp [hc]), List.append_nil]
  have e4 : L 4 = fin4 ss fs (k + 1) := by rw [h4]; unfold fin4; rw [filt_s, if_neg (by simp [hp]), List.append_nil]
  constructor
  · intro e
    refine ⟨h0, h1, h2, e3, e4, ?_, h6⟩
    show L 5 ++ [k] = _; rw [h5]; unfold fin5; rw [filt_s, if_pos (by rw [hc, hp, ← ha, e]; rfl)]
  · intro e
    refine ⟨h0, h1, h2, e3, e4, ?_, h6⟩
    rw [h5]; unfold fin5; rw [filt_s, if_neg (by rw [hc, hp, ← ha, e]; simp), List.append_nil]
theorem sndT_any {ss : List Spt} {fs : List Fce} {k : Nat} (t : Tri) : (sndT ss fs k).any (ovlB t) = (snd ss fs k).any fun i => ovlB t (triA ss (fcA fs i)) := by
  unfold sndT; rw [List.any_map]; rfl
theorem rows_6 {ss : List Spt} {fs : List Fce} {k : Nat} {L : Nat → List Nat} (h : Rows3 ss fs k L) (hc : crB ss (fcA fs k) = true) (hp : posB ss (fcA fs k) = true) {a : Bool} (ha : a = (sndT ss fs k).any (ovlB (triA ss (fcA fs k)))) :
    (a = true → Rows2 ss fs (k + 1) (upF L 6 (L 6 ++ [k]))) ∧ (a = false → Rows2 ss fs (k + 1) L) := by
  obtain ⟨h0, h1, h2, h3, h4, h5, h6⟩ := h
  rw [sndT_any] at ha
  constructor
  · intro e
    refine ⟨h0, h1, h2, h3, h4, h5, ?_⟩
    show L 6 ++ [k] = _; rw [h6]; unfold fin6; rw [filt_s, if_pos (by rw [hc, hp, ← ha, e]; rfl)]
  · intro e
    refine ⟨h0, h1, h2, h3, h4, h5, ?_⟩
    rw [h6]; unfold fin6; rw [filt_s, if_neg (by rw [hc, hp, ← ha, e]; simp), List.append_nil]
theorem sndT_yes {ss : List Spt} {fs : List Fce} {k : Nat} (h : (crB ss (fcA fs k) && posB ss (fcA fs k)) = true) : sndT ss fs (k + 1) = sndT ss fs k ++ [triA ss (fcA fs k)] := by
  unfold sndT; rw [snd_yes h, List.map_append]; rfl
theorem sndT_no {ss : List Spt} {fs : List Fce} {k : Nat} (h : (crB ss (fcA fs k) && posB ss (fcA fs k)) = false) : sndT ss fs (k + 1) = sndT ss fs k := by
  unfold sndT; rw [snd_no h]
/-- what Check holds while it lists the findings -/
structure Ob (w W : World) (f : Nat → Value) (L : Nat → List Nat) (v : Value) (N : Nat) : Prop where
  below : Below w.heap.size w W
  six : Six W w.heap.size f L
  row : ∃ xs, W.ownsRow w.heap.size 156 2 v N xs
theorem Ob.to {w W W' : World} {f : Nat → Value} {L : Nat → List Nat} {v : Value} {N : Nat} (h : Ob w W f L v N) (hb : Below W.heap.size W W') : Ob w W' f L v N :=
  ⟨below_via h.below h.below.size hb, h.six.to hb, by obtain ⟨xs, hx⟩ := h.row; exact ⟨xs, row_below hx hb⟩⟩
theorem Ob.grow {w W W' : World} {f : Nat → Value} {L : Nat → List Nat} {v v' : Value} {N : Nat} {o : Obj} {ys : List Value} (h : Ob w W f L v N) (hown : W'.ownsRow w.heap.size 156 2 v' (N + 1) ys) (hg : (W.alloc o).grownBy W' v.ownBlock) : Ob w W' f L v' (N + 1) := by
  have h1 := h.to ((Below.refl _ _).alloc (Nat.le_refl _) o)
  obtain ⟨xs, hx⟩ := h1.row
  exact ⟨h1.below.grown hg h1.below.size (fun k hk => (hx.lt k hk).1), h1.six.kept hg (fun k hk => rows_ne (h1.six.row k hk) hx (by decide)), ⟨ys, hown⟩⟩
theorem find_infoM : (Tryz.prog.info? 156).map (fun i => (i.zero, i.size, i.bytes)) = some (some (.agg #[.int .i64 0, .string ⟨#[]⟩]), 2, 24) := by kernel_rfl
def sumL (L : Nat → List Nat) : Nat → Nat
  | 0 => 0
  | k + 1 => sumL L k + (L k).length
theorem sumL_le {L : Nat → List Nat} (h : ∀ k, k < 7 → (L k).length ≤ 4000) : ∀ k, k ≤ 7 → sumL L k ≤ 4000 * k
  | 0, _ => by simp [sumL]
  | k + 1, hk => by
    have := sumL_le h k (by omega)
    have := h k (by omega)
    simp only [sumL]; omega
theorem sumL_zero {ss : List Spt} {fs : List Fce} {L : Nat → List Nat} (h : Rows2 ss fs fs.length L) (hs : smB ⟨ss, fs⟩ = true) : sumL L 7 = 0 ↔ vM ⟨ss, fs⟩ = true := by
  obtain ⟨h0, h1, h2, h3, h4, h5, h6⟩ := h
  have e : sumL L 7 = (L 0).length + (L 1).length + (L 2).length + (L 3).length + (L 4).length + (L 5).length + (L 6).length := by simp [sumL]
  rw [e, h0, h1, h2, h3, h4, h5, h6]
  simp only [vM, hs, Bool.true_and, decide_eq_true_eq, List.length_nil]
  constructor
  · intro h
    refine ⟨?_, ?_, ?_, ?_, ?_, ?_⟩ <;> exact List.eq_nil_of_length_eq_zero (by omega)
  · rintro ⟨e1, e2, e3, e4, e5, e6⟩
    rw [e1, e2, e3, e4, e5, e6]; rfl
theorem Rows2.bd {ss : List Spt} {fs : List Fce} {k : Nat} {L : Nat → List Nat} (h : Rows2 ss fs k L) (h1 : ss.length ≤ 2000) (h2 : k ≤ 4000) : ∀ j, j < 7 → (L j).length ≤ 4000 := by
  obtain ⟨e0, e1, e2, e3, e4, e5, e6⟩ := h
  have F : ∀ (p : Nat → Bool) n, ((List.range n).filter p).length ≤ n := fun p n => by
    have := List.length_filter_le p (List.range n)
    simpa using this
  intro j hj
  obtain rfl | rfl | rfl | rfl | rfl | rfl | rfl : j = 0 ∨ j = 1 ∨ j = 2 ∨ j = 3 ∨ j = 4 ∨ j = 5 ∨ j = 6 := by omega
  · rw [e0]; simp
  · rw [e1]; exact Nat.le_trans (F _ _) (by omega)
  · rw [e2]; exact Nat.le_trans (F _ _) (by omega)
  · rw [e3]; exact Nat.le_trans (F _ _) (by omega)
  · rw [e4]; exact Nat.le_trans (F _ _) (by omega)
  · rw [e5]; exact Nat.le_trans (F _ _) (by omega)
  · rw [e6]; exact Nat.le_trans (F _ _) (by omega)
theorem itoaT (n : Int) (w : World) (h0 : -9223372036854775808 ≤ n) (h1 : n ≤ 9223372036854775807) (ht : Lib.TabIs Tryz.prog w "internal/strconv.uint64pow10" .u64 Lib.pow10Tab) :
    Calls Tryz.prog 97 #[.int .i64 n] w fun e w' => (∃ s : ByteArray, e = .returned (.string s)) ∧ Below w.heap.size w w' :=
  (Tryz.strconv_Itoa n h0 h1 w ht).mono fun e w' ⟨he, k, os, hw⟩ => ⟨⟨_, he⟩, by rw [hw]; exact Lib.below_grow _ _ (Nat.le_refl _) _ _⟩
/-- a row of numbers read as a slice -/
theorem natSl {w : World} {base : Nat} {v : Value} {n : Nat} {l : List Nat} (h : w.ownsRow base 3 1 v n (natV l)) (hl : l.length ≤ 4000) (hb : ∀ x ∈ l, x ≤ 4000) : ∃ A c, v = .slice A l.length c ∧ IntSl w A (l.map fun x : Nat => (x : Int)) := by
  have e : natV l = (l.map fun x : Nat => (x : Int)).map (Value.int .i64) := by simp [natV, List.map_map]
  rw [e] at h
  obtain ⟨A, c, hv, hs⟩ := IntSl.of_row h (by simp; omega) (fun i hi => by
    rw [List.getElem_map]
    have := hb _ (List.getElem_mem (by simpa using hi : i < l.length))
    omega)
  exact ⟨A, c, by simpa using hv, hs⟩
theorem Rows2.bd2 {ss : List Spt} {fs : List Fce} {k : Nat} {L : Nat → List Nat} (h : Rows2 ss fs k L) (h1 : ss.length ≤ 2000) (h2 : k ≤ 4000) : ∀ j, j < 7 → ∀ x ∈ L j, x ≤ 4000 := by
  obtain ⟨e0, e1, e2, e3, e4, e5, e6⟩ := h
  have F : ∀ (p : Nat → Bool) n, n ≤ 4000 → ∀ x ∈ (List.range n).filter p, x ≤ 4000 := fun p n hn x hx => by
    have := List.mem_range.1 (List.mem_filter.1 hx).1
    omega
  intro j hj
  obtain rfl | rfl | rfl | rfl | rfl | rfl | rfl : j = 0 ∨ j = 1 ∨ j = 2 ∨ j = 3 ∨ j = 4 ∨ j = 5 ∨ j = 6 := by omega
  · rw [e0]; simp
  · rw [e1]; exact F _ _ (by omega)
  · rw [e2]; exact F _ _ (by omega)
  · rw [e3]; exact F _ _ (by omega)
  · rw [e4]; exact F _ _ (by omega)
  · rw [e5]; exact F _ _ (by omega)
  · rw [e6]; exact F _ _ (by omega)
theorem index_seven (f : Nat → Value) {i : Nat} (hi : i < 7) (W : World) : (Instr.index 136 (.agg #[f 0, f 1, f 2, f 3, f 4, f 5, f 6]) (.int .i64 (i : Int))).run Tryz.prog W = .ok (f i) W := by
  obtain rfl | rfl | rfl | rfl | rfl | rfl | rfl : i = 0 ∨ i = 1 ∨ i = 2 ∨ i = 3 ∨ i = 4 ∨ i = 5 ∨ i = 6 := by omega
  all_goals
    unfold Instr.index
    go_simp
theorem fin_lenL {p : Nat → Bool} (n : Nat) : ((List.range n).filter p).length ≤ n := by
  have := List.length_filter_le p (List.range n)
  simpa using this
theorem FarSl.of_blk {w : World} {g : Nat} {l : List Spt} (h : Blk w g 4 (farR l l.length)) : FarSl w (some ⟨g, 0, none⟩) l := fun hl => ⟨g, 0, rfl, h.lt, fun i hi => by
  rw [Nat.zero_add, h.cell]
  unfold farR
  rw [mkRow_at _ _ hi]
  simp [farC, hi, spA]⟩
end Go.Proofs.YtlnlaopokelggaaGreatDoor
