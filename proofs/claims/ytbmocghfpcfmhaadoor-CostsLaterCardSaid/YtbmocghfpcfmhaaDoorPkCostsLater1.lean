/- Parts of one proof, joined: Small words for memory, kept for all texts of this seat: a slice that reads as a list, a block known whole, what is appended; structs by value; the last step of a row. What a walk owns: blocks of its own that are known whole, carried from world to world; nothing below them is turned. Rows of the call's own that grow by append, beside blocks of the call's own; slices of integers that read as a list. Triangulated surfaces in memory, and their plain facts: points, turns, triangles, sides. Valid surfaces: their faces are right; plain facts. Spans of integers, said of integers: sums, products, quotients rounded down and up, square roots. Trenches, said of integers: points of a line, the face of a point, its level, distances, covers. Present values, said of integers: later costs less; and a lower or wider trench is greater. Wide integers as magnitudes with a sign, said of integers: products, quotients. -/
import Derived.Test.YtbmocghfpcfmhaaDoorRows
import Derived.Handy
import Derived.WalkSpells
import Derived.WalkLawsBesides
import Derived.Below
import Derived.Laws.OwnMore
import Derived.Deep.AppendLies
import Derived.Deep.Draws
import Derived.Laws.Rows
import Derived.Maps.AppendAt
import Derived.RegionTactic
import Derived.OwnWalk
import Derived.Lib.SmallJoins
import Derived.Deep.Slices
import Derived.Deep.Fields
import Derived.ChangeSame
import Derived.Lib.Hide
import Derived.PlainAid
import Derived.Deep.RegionHeld3
namespace Go.Proofs.YtbmocghfpcfmhaaDoor
open Go.RowKit
theorem block_of_add (a : Addr) (n : Nat) : (a.add n).block = a.block := by unfold Addr.add; split <;> rfl
theorem add_of_add (a : Addr) (i j : Nat) : (a.add i).add j = a.add (i + j) := by
  unfold Addr.add
  by_cases hi : i = 0 <;> by_cases hj : j = 0 <;> simp [hi, hj, Nat.add_assoc]

def Reads (w : World) (B size : Nat) (A : Option Addr) (n : Nat) (xs : List Value) : Prop :=
  xs.length = n * size ∧ (0 < n → ∃ ad, A = some ad ∧ ad.block < B ∧ ∀ j u, xs[j]? = some u → w.cell? (ad.add j) = some u)

section
variable {w w' : World} {B B' size n : Nat} {A : Option Addr} {xs : List Value}
theorem Reads.none_ : Reads w B size A 0 [] := ⟨by simp, fun h => absurd h (by omega)⟩
theorem Reads.at_ {k : Nat} (h : Reads w B 1 A n xs) (hk : k < n) : ∃ ad u, A = some ad ∧ ad.block < B ∧ xs[k]? = some u ∧ w.cell? (ad.add k) = some u := by
  obtain ⟨ad, e, hb, hc⟩ := h.2 (by omega)
  have hl : k < xs.length := by have := h.1; omega
  exact ⟨ad, xs[k], e, hb, List.getElem?_eq_getElem hl, hc k _ (List.getElem?_eq_getElem hl)⟩
theorem Reads.keep (h : Reads w B size A n xs) (hk : ∀ p : Addr, p.block < B → w'.cell? p = w.cell? p) : Reads w' B size A n xs :=
  ⟨h.1, fun hn => by
    obtain ⟨ad, e, hb, hc⟩ := h.2 hn
    exact ⟨ad, e, hb, fun j u hu => (hk _ (by rw [block_of_add]; exact hb)).trans (hc j u hu)⟩⟩
theorem Reads.more (h : Reads w B size A n xs) (hB : B ≤ B') : Reads w B' size A n xs :=
  ⟨h.1, fun hn => by
    obtain ⟨ad, e, hb, hc⟩ := h.2 hn
    exact ⟨ad, e, by omega, hc⟩⟩
theorem Reads.below (h : Reads w B size A n xs) (hb : Below B w w') : Reads w' B size A n xs := h.keep fun _ hp => hb.cell hp
theorem Reads.drew (h : Reads w B size A n xs) : Reads w.drew B size A n xs := h
theorem Reads.drewN (h : Reads w B size A n xs) (k : Nat) : Reads (w.drewN k) B size A n xs := h
theorem Reads.alloc (h : Reads w B size A n xs) (hB : B ≤ w.heap.size) (o : Obj) : Reads (w.alloc o) B size A n xs := h.keep fun p hp => World.cell?_alloc_lt w o p (by omega)
theorem Reads.setCell (h : Reads w B size A n xs) {p : Addr} (hB : B ≤ p.block) (u : Value) : Reads (w.setCell p u) B size A n xs :=
  h.keep fun q hq => World.cell?_setCell_other w p q u (fun e => by subst e; omega)
theorem Reads.grown (h : Reads w B size A n xs) {row : Option Nat} (hg : w.grownBy w' row) (hB : B ≤ w.heap.size) (hr : ∀ g, row = some g → B ≤ g) : Reads w' B size A n xs :=
  h.keep fun p hp => World.cell?_of_block (hg.block p.block (by omega) (fun e => by have := hr _ e.symm; omega))
theorem Reads.cut (h : Reads w B size A n xs) {k cap : Nat} (hk : k ≤ n) (hc : n ≤ cap) :
    Reads w B size (if cap = k then A else A.map (·.add (k * size))) (n - k) (xs.drop (k * size)) := by
  refine ⟨by rw [List.length_drop, h.1, Nat.sub_mul], fun hn => ?_⟩
  obtain ⟨ad, rfl, hb, hcell⟩ := h.2 (by omega)
  rw [if_neg (by omega)]
  refine ⟨ad.add (k * size), rfl, by rw [block_of_add]; exact hb, fun j u hu => ?_⟩
  rw [add_of_add]
  exact hcell _ u (by rw [← hu, List.getElem?_drop])
theorem Reads.of_own {base : Nat} {e : TypeId} {c : Nat} (h : w.ownsRow base e size (.slice A n c) n xs) : Reads w w.heap.size size A n xs := by
  refine ⟨h.1, fun hn => ?_⟩
  obtain ⟨g, cap, hv, _, hlt⟩ := h.form hn
  have hA : A = some ⟨g, 0, none⟩ := by injection hv
  subst hA
  exact ⟨_, rfl, hlt, h.cells (g := g) rfl⟩
end

def Blk (w : World) (g : Nat) (t : TypeId) (cs : Array Value) : Prop := w.heap[g]? = some (.cells cs t (0, 0))

section
variable {w w' : World} {g : Nat} {t : TypeId} {cs : Array Value}
theorem Blk.lt (h : Blk w g t cs) : g < w.heap.size := by
  rcases Nat.lt_or_ge g w.heap.size with hlt | hge
  · exact hlt
  · unfold Blk at h; rw [Array.getElem?_eq_none hge] at h; cases h
theorem Blk.cell (h : Blk w g t cs) (i : Nat) : w.cell? ⟨g, i, none⟩ = cs[i]? := cell_of_row w g i cs t (0, 0) h
theorem Blk.frozen (h : Blk w g t cs) (i : Nat) : w.frozen? ⟨g, i, none⟩ = false := by
  unfold Blk at h
  simp [World.frozen?, h]
theorem Blk.new (w : World) (t : TypeId) (cs : Array Value) : Blk (w.alloc (.cells cs t)) w.heap.size t cs := heap_alloc_new w _
theorem Blk.drew (h : Blk w g t cs) : Blk w.drew g t cs := h
theorem Blk.drewN (h : Blk w g t cs) (n : Nat) : Blk (w.drewN n) g t cs := h
theorem Blk.alloc (h : Blk w g t cs) (o : Obj) : Blk (w.alloc o) g t cs := (Below.heap_alloc w o g h.lt).trans h
theorem Blk.set_ (h : Blk w g t cs) (i : Nat) (u : Value) : Blk (w.setCell ⟨g, i, none⟩ u) g t (cs.setIfInBounds i u) := by
  unfold Blk at h ⊢
  simp [World.setCell, Array.getElem?_modify, h]
theorem Blk.far (h : Blk w g t cs) {p : Addr} (hp : g ≠ p.block) (u : Value) : Blk (w.setCell p u) g t cs := (Below.heap_setCell w p u g hp).trans h
theorem Blk.below {B : Nat} (h : Blk w g t cs) (hb : Below B w w') (hg : g < B) : Blk w' g t cs := (hb.block g hg).trans h
theorem Blk.grown {row : Option Nat} (h : Blk w g t cs) (hb : w.grownBy w' row) (hg : some g ≠ row) : Blk w' g t cs := (hb.block g h.lt hg).trans h
theorem Blk.ne_ {g' : Nat} {t' : TypeId} {cs' : Array Value} (h : Blk w g t cs) (h' : Blk w g' t' cs') (hne : t ≠ t') : g ≠ g' := by
  rintro rfl
  unfold Blk at h h'
  rw [h] at h'
  injection h' with h'
  injection h' with _ ht
  exact hne ht
theorem own_blk_ne {base : Nat} {e : TypeId} {size n : Nat} {v : Value} {xs : List Value} (h : w.ownsRow base e size v n xs) (hg : Blk w g t cs) (hne : e ≠ t) : v.ownBlock ≠ some g := by
  rcases h.2 with ⟨rfl, _⟩ | ⟨g', cap, cur, rfl, _, hh, _⟩
  · simp [Value.ownBlock]
  · intro he
    have : g' = g := by simpa [Value.ownBlock] using he
    subst this
    exact Blk.ne_ (t := e) hh hg hne rfl
end

section
variable {P : Program} (w : World)

theorem run_append_of_nil (base : Nat) (t ty e : TypeId) (i : TypeInfo) (size : Nat) (ht : P.underlying t = some (.slice e)) (hi : P.info? e = some i)
    (v : Value) (n : Nat) (xs : List Value) (hown : w.ownsRow base e size v n xs) (c : Nat) : (Builtin.append_ #[t, t] ty #[v, .slice none 0 c]).run P w = .ok v w := by
  rcases hown.2 with ⟨rfl, rfl⟩ | ⟨g, cap, cur, rfl, _, _, hnc, _⟩
  · simp [Builtin.append_, run_underlying ht, sizeOf, typeInfo, hi, Builtin.lenOf, Builtin.firstCells]
  · simp [Builtin.append_, run_underlying ht, sizeOf, typeInfo, hi, Builtin.lenOf, Builtin.firstCells, hnc, storeCells]

theorem run_append_any (base : Nat) (t ty e : TypeId) (i : TypeInfo) (z : Value) (size bytes : Nat) (ht : P.underlying t = some (.slice e)) (hi : P.info? e = some i) (hz : i.zero = some z)
    (hsize : i.size = size) (hby : i.bytes = bytes) (hzs : z.cells.size = size) (hsz : 0 < size)
    (v : Value) (n : Nat) (xs : List Value) (hown : w.ownsRow base e size v n xs)
    (B : Nat) (A : Option Addr) (m c : Nat) (news : List Value) (hr : Reads w B size A m news) (h1 : ∀ u ∈ news, u.oneCell' = true)
    (h63 : n + m ≤ maxLen) (hbytes : (n + m) * bytes ≤ 140737488355328) (hbase : base ≤ w.heap.size) :
    ∃ v' w', (Builtin.append_ #[t, t] ty #[v, .slice A m c]).run P w = .ok v' w' ∧ w'.ownsRow base e size v' (n + m) (xs ++ news) ∧ w.grownBy w' v.ownBlock ∧
      (v'.ownBlock = v.ownBlock ∨ v'.ownBlock = some w.heap.size) := by
  rcases A with _ | ad
  · have hm : m = 0 := by
      rcases Nat.eq_zero_or_pos m with h0 | h0
      · exact h0
      · obtain ⟨ad, h, _⟩ := hr.2 h0
        cases h
    subst hm
    have hn : news = [] := List.eq_nil_of_length_eq_zero (by simpa using hr.1)
    subst hn
    exact ⟨v, w, run_append_of_nil w base t ty e i size ht hi v n xs hown c, by simpa using hown, World.grownBy.refl w _, .inl rfl⟩
  · have hcells : ∀ j u, news[j]? = some u → w.cell? (ad.add j) = some u := by
      intro j u hu
      rcases Nat.eq_zero_or_pos m with h0 | h0
      · subst h0
        have hn : news = [] := List.eq_nil_of_length_eq_zero (by simpa using hr.1)
        subst hn
        simp at hu
      · obtain ⟨ad', h, _, hc⟩ := hr.2 h0
        injection h with h
        subst h
        exact hc j u hu
    obtain ⟨v', w', hrun, h2, h3, _, h5⟩ := run_append_own_at (P := P) w base t ty e i z size bytes ht hi hz hsize hby hzs hsz v n xs hown ad m c news hr.1 hcells h1 h63 hbytes hbase
    exact ⟨v', w', hrun, h2, h3, h5⟩

theorem wp_append_any {o : Oper} {a : Act} {K : Act → World → Prop} {Q : Exit → Act → World → Prop} (s x : Operand) (t : TypeId)
    (ho : o.op = .call { callee := .builtin .append, args := #[s, x], argTypes := #[t, t] })
    (base : Nat) (e : TypeId) (i : TypeInfo) (z : Value) (size bytes : Nat) (ht : P.underlying t = some (.slice e)) (hi : P.info? e = some i) (hz : i.zero = some z)
    (hsize : i.size = size) (hby : i.bytes = bytes) (hzs : z.cells.size = size) (hsz : 0 < size)
    (v : Value) (n : Nat) (xs : List Value) (hs : a.eval s = v) (hown : w.ownsRow base e size v n xs)
    (B : Nat) (A : Option Addr) (m c : Nat) (news : List Value) (hx : a.eval x = .slice A m c) (hr : Reads w B size A m news) (h1 : ∀ u ∈ news, u.oneCell' = true)
    (h63 : n + m ≤ maxLen) (hbytes : (n + m) * bytes ≤ 140737488355328) (hbase : base ≤ w.heap.size)
    (h : ∀ v' w', w'.ownsRow base e size v' (n + m) (xs ++ news) → w.grownBy w' v.ownBlock → (v'.ownBlock = v.ownBlock ∨ v'.ownBlock = some w.heap.size) → K (a.put o.dst v') w') : o.wp P a w K Q := by
  obtain ⟨v', w', hrun, h2, h3, h4⟩ := run_append_any (P := P) w base t o.type e i z size bytes ht hi hz hsize hby hzs hsz v n xs hown B A m c news hr h1 h63 hbytes hbase
  unfold Oper.wp execOp
  simp only [ho, resolve, invoke, builtin, Sem.run_bind, Sem.run_pure, Result.andThen_ok, List.map_toArray, List.map_cons, List.map_nil, hs, hx, hrun]
  exact h v' w' h2 h3 h4

theorem wpList_append_any {ops : Array Oper} {rest : List Oper} {o : Oper} {a : Act} {Q : Exit → Act → World → Prop} (hgd : o.guard = none) (s x : Operand) (t : TypeId)
    (ho : o.op = .call { callee := .builtin .append, args := #[s, x], argTypes := #[t, t] })
    (base : Nat) (e : TypeId) (i : TypeInfo) (z : Value) (size bytes : Nat) (ht : P.underlying t = some (.slice e)) (hi : P.info? e = some i) (hz : i.zero = some z)
    (hsize : i.size = size) (hby : i.bytes = bytes) (hzs : z.cells.size = size) (hsz : 0 < size)
    (v : Value) (n : Nat) (xs : List Value) (hs : a.eval s = v) (hown : w.ownsRow base e size v n xs)
    (B : Nat) (A : Option Addr) (m c : Nat) (news : List Value) (hx : a.eval x = .slice A m c) (hr : Reads w B size A m news) (h1 : ∀ u ∈ news, u.oneCell' = true)
    (h63 : n + m ≤ maxLen) (hbytes : (n + m) * bytes ≤ 140737488355328) (hbase : base ≤ w.heap.size)
    (h : ∀ v' w', w'.ownsRow base e size v' (n + m) (xs ++ news) → w.grownBy w' v.ownBlock → (v'.ownBlock = v.ownBlock ∨ v'.ownBlock = some w.heap.size) → wpList P ops Q rest (a.put o.dst v') w') : wpList P ops Q (o :: rest) a w :=
  wpList_plain hgd fun _ hK => wp_append_any w s x t ho base e i z size bytes ht hi hz hsize hby hzs hsz v n xs hs hown B A m c news hx hr h1 h63 hbytes hbase fun v' w' h2 h3 h4 => hK _ _ (h v' w' h2 h3 h4)

theorem step_append_any {ops : Array Oper} {o : Oper} {a : Act} {K : Act → World → Prop} {Q : Exit → Act → World → Prop} {E : Prop} (hgd : o.guard = none) (s x : Operand) (t : TypeId)
    (ho : o.op = .call { callee := .builtin .append, args := #[s, x], argTypes := #[t, t] })
    (base : Nat) (e : TypeId) (i : TypeInfo) (z : Value) (size bytes : Nat) (ht : P.underlying t = some (.slice e)) (hi : P.info? e = some i) (hz : i.zero = some z)
    (hsize : i.size = size) (hby : i.bytes = bytes) (hzs : z.cells.size = size) (hsz : 0 < size)
    (v : Value) (n : Nat) (xs : List Value) (hs : a.eval s = v) (hown : w.ownsRow base e size v n xs)
    (B : Nat) (A : Option Addr) (m c : Nat) (news : List Value) (hx : a.eval x = .slice A m c) (hr : Reads w B size A m news) (h1 : ∀ u ∈ news, u.oneCell' = true)
    (h63 : n + m ≤ maxLen) (hbytes : (n + m) * bytes ≤ 140737488355328) (hbase : base ≤ w.heap.size)
    (h : ∀ v' w', w'.ownsRow base e size v' (n + m) (xs ++ news) → w.grownBy w' v.ownBlock → (v'.ownBlock = v.ownBlock ∨ v'.ownBlock = some w.heap.size) → K (a.put o.dst v') w') :
    if Region.wanted o (yielded ops a.tmps) = true then Oper.wp P o a w K Q else E := by
  have hw : Region.wanted o (yielded ops a.tmps) = true := by simp [Region.wanted, hgd]
  rw [if_pos hw]
  exact wp_append_any w s x t ho base e i z size bytes ht hi hz hsize hby hzs hsz v n xs hs hown B A m c news hx hr h1 h63 hbytes hbase h
end

section
open Go.Joins Go.ChangeShapes Go.WideShapes Go.Deep
section
variable {H : Type} {enc : TypeId × Value → H} {P : Program} {w : World} {base : Nat} {spare : Nat → Bool} {held : Bool}
theorem open_slice_fields {t e : TypeId} {fs : Array Field} {fuel : Nat} {cs : List Value} {x : DataW H × List MemPlace} (ht : P.underlying t = some (.slice e)) (he : P.underlying e = some (.struct fs))
    (hone : oneCellFields P fs = true) (hC : P.cellsOf e = fs.size) (h : DataW.trod enc P w base spare held fuel t cs = some x) :
    (cs = [.slice none 0 0] ∧ x = (.nil, [])) ∨
    ∃ (a : Addr) (len cap m : Nat) (D : Nat → DataW H) (Pl : Nat → List MemPlace), cs = [.slice (some a) len cap] ∧ base ≤ a.block ∧ len ≤ cap ∧ cap ≤ maxLen ∧ m = (if spare a.block then cap else len) ∧
      x = (.slice ((List.range len).map D) ((List.range (m - len)).map fun j => D (len + j)), MemPlace.row a (m * fs.size) ++ (List.range m).flatMap Pl) ∧
      ∀ i, i < m → ∃ (ys : List (DataW H × List MemPlace)) (n : Nat), D i = .agg (ys.map (·.1)) ∧ Pl i = ys.flatMap (·.2) ∧ ys.length = fs.size ∧
        ∀ (j : Nat) (f : Field), fs[j]? = some f → ∃ (v : Value) (y : DataW H × List MemPlace), w.cell? (a.add (i * fs.size + j)) = some v ∧ ys[j]? = some y ∧ DataW.trod enc P w base spare held n f.type [v] = some y := by
  rcases open_slice ht h with h0 | ⟨a, len, cap, m, n, D, Pl, hcs, hb, hl, hm, hmm, hx, hi⟩
  · exact .inl h0
  · refine .inr ⟨a, len, cap, m, D, Pl, hcs, hb, hl, hm, hmm, by rw [hC] at hx; exact hx, fun i him => ?_⟩
    obtain ⟨cs', hc, ht'⟩ := hi i him
    rw [hC] at hc
    obtain ⟨ys, n', hn', hy, hlen, hyl, hf⟩ := DataW.trod_struct he ht'
    obtain ⟨_, hcl, hat⟩ := World.cells?_some hc
    simp only [Prod.mk.injEq] at hy
    refine ⟨ys, n', hy.1, hy.2, hyl, fun j f hj => ?_⟩
    obtain ⟨ho, hk⟩ := hone_of hone j f hj
    have hjl : j < fs.size := (Array.getElem?_eq_some_iff.1 hj).1
    have hcell := hat j hjl
    have hv : cs'[j]? = some (cs'[j]'(by omega)) := List.getElem?_eq_getElem (by omega)
    have h1 := hf j f hj
    rw [ho, hk] at h1
    have hone' : (cs'.drop j).take 1 = [cs'[j]'(by omega)] := by
      rw [List.drop_eq_getElem_cons (by omega)]
      rfl
    rw [hone'] at h1
    have hys : ys[j]? = some (ys[j]'(by omega)) := List.getElem?_eq_getElem (by omega)
    refine ⟨_, _, ?_, hys, h1.trans hys⟩
    rw [← Go.Deep.add_add, hcell, hv]
end

section
variable {H : Type} {enc : TypeId × Value → H} {P : Program} {w : World} {base : Nat} {spare : Nat → Bool} {held : Bool}
theorem open_agg5 {r : Reach} {b0 : Nat} {t : TypeId} {f0 f1 f2 f3 f4 : Field} {v : Value} {d : DataW H} {p : List MemPlace} (hs : P.underlying t = some (.struct #[f0, f1, f2, f3, f4])) (hone : oneCellFields P #[f0, f1, f2, f3, f4] = true) (hC : P.cellsOf t = 5)
    (hv : Value.okWide P w r b0 t v) (h : DataW.Trod enc P w base spare held t v d p) :
    ∃ (v0 v1 v2 v3 v4 : Value) (y0 y1 y2 y3 y4 : DataW H × List MemPlace) (n : Nat), v = .agg #[v0, v1, v2, v3, v4] ∧ d = .agg [y0.1, y1.1, y2.1, y3.1, y4.1] ∧ p = y0.2 ++ (y1.2 ++ (y2.2 ++ (y3.2 ++ y4.2))) ∧
      DataW.trod enc P w base spare held n f0.type [v0] = some y0 ∧ DataW.trod enc P w base spare held n f1.type [v1] = some y1 ∧ DataW.trod enc P w base spare held n f2.type [v2] = some y2 ∧ DataW.trod enc P w base spare held n f3.type [v3] = some y3 ∧ DataW.trod enc P w base spare held n f4.type [v4] = some y4 := by
  obtain ⟨cs, rfl, hsz⟩ := okWide_struct hs hv
  obtain ⟨l⟩ := cs
  match l, hsz.trans hC with
  | [c0, c1, c2, c3, c4], _ =>
    obtain ⟨fuel, hf⟩ := h
    obtain ⟨xs, n, _, hx, _, hlen, hg⟩ := DataW.trod_struct hs hf
    obtain ⟨o0, k0⟩ := hone_of hone 0 f0 rfl
    obtain ⟨o1, k1⟩ := hone_of hone 1 f1 rfl
    obtain ⟨o2, k2⟩ := hone_of hone 2 f2 rfl
    obtain ⟨o3, k3⟩ := hone_of hone 3 f3 rfl
    obtain ⟨o4, k4⟩ := hone_of hone 4 f4 rfl
    match xs, hlen with
    | [y0, y1, y2, y3, y4], _ =>
      simp only [Prod.mk.injEq] at hx
      exact ⟨c0, c1, c2, c3, c4, y0, y1, y2, y3, y4, n, rfl, by simpa using hx.1, by simpa using hx.2, by simpa [Value.cells, o0, k0] using hg 0 f0 rfl, by simpa [Value.cells, o1, k1] using hg 1 f1 rfl, by simpa [Value.cells, o2, k2] using hg 2 f2 rfl, by simpa [Value.cells, o3, k3] using hg 3 f3 rfl, by simpa [Value.cells, o4, k4] using hg 4 f4 rfl⟩

theorem open_agg6 {r : Reach} {b0 : Nat} {t : TypeId} {f0 f1 f2 f3 f4 f5 : Field} {v : Value} {d : DataW H} {p : List MemPlace} (hs : P.underlying t = some (.struct #[f0, f1, f2, f3, f4, f5])) (hone : oneCellFields P #[f0, f1, f2, f3, f4, f5] = true) (hC : P.cellsOf t = 6)
    (hv : Value.okWide P w r b0 t v) (h : DataW.Trod enc P w base spare held t v d p) :
    ∃ (v0 v1 v2 v3 v4 v5 : Value) (y0 y1 y2 y3 y4 y5 : DataW H × List MemPlace) (n : Nat), v = .agg #[v0, v1, v2, v3, v4, v5] ∧ d = .agg [y0.1, y1.1, y2.1, y3.1, y4.1, y5.1] ∧ p = y0.2 ++ (y1.2 ++ (y2.2 ++ (y3.2 ++ (y4.2 ++ y5.2)))) ∧
      DataW.trod enc P w base spare held n f0.type [v0] = some y0 ∧ DataW.trod enc P w base spare held n f1.type [v1] = some y1 ∧ DataW.trod enc P w base spare held n f2.type [v2] = some y2 ∧ DataW.trod enc P w base spare held n f3.type [v3] = some y3 ∧ DataW.trod enc P w base spare held n f4.type [v4] = some y4 ∧ DataW.trod enc P w base spare held n f5.type [v5] = some y5 := by
  obtain ⟨cs, rfl, hsz⟩ := okWide_struct hs hv
  obtain ⟨l⟩ := cs
  match l, hsz.trans hC with
  | [c0, c1, c2, c3, c4, c5], _ =>
    obtain ⟨fuel, hf⟩ := h
    obtain ⟨xs, n, _, hx, _, hlen, hg⟩ := DataW.trod_struct hs hf
    obtain ⟨o0, k0⟩ := hone_of hone 0 f0 rfl
    obtain ⟨o1, k1⟩ := hone_of hone 1 f1 rfl
    obtain ⟨o2, k2⟩ := hone_of hone 2 f2 rfl
    obtain ⟨o3, k3⟩ := hone_of hone 3 f3 rfl
    obtain ⟨o4, k4⟩ := hone_of hone 4 f4 rfl
    obtain ⟨o5, k5⟩ := hone_of hone 5 f5 rfl
    match xs, hlen with
    | [y0, y1, y2, y3, y4, y5], _ =>
      simp only [Prod.mk.injEq] at hx
      exact ⟨c0, c1, c2, c3, c4, c5, y0, y1, y2, y3, y4, y5, n, rfl, by simpa using hx.1, by simpa using hx.2, by simpa [Value.cells, o0, k0] using hg 0 f0 rfl, by simpa [Value.cells, o1, k1] using hg 1 f1 rfl, by simpa [Value.cells, o2, k2] using hg 2 f2 rfl, by simpa [Value.cells, o3, k3] using hg 3 f3 rfl, by simpa [Value.cells, o4, k4] using hg 4 f4 rfl, by simpa [Value.cells, o5, k5] using hg 5 f5 rfl⟩
end

end
section
open Go.WideShapes Go.ChangeShapes
section
variable {H : Type} {enc : TypeId × Value → H} {P : Program}
theorem post_of_below {f : Func} {s : ChangeSpec} {apart fresh handsOn again : Bool} {W W' : World} {args : Array Value} {v : Value} {ds gs : List (DataW H)} {before pa pv : List MemPlace}
    (hW : DataW.Whole enc P f.params.toList s.vars apart W args.toList ds gs before)
    (hres : ∀ (b : Nat) (sp : Nat → Bool) (hd : Bool), DataW.TrodAll enc P W' b sp hd f.resultTypes.toList (v.resultList f.resultTypes.size) (s.fn H (ds ++ gs)).results [])
    (hargs : ∀ sp : Nat → Bool, (∀ p ∈ before, sp p.block = true) → DataW.TrodAll enc P W' 0 sp true f.params.toList args.toList (s.fn H (ds ++ gs)).args pa)
    (hvars : ∀ sp : Nat → Bool, (∀ p ∈ before, sp p.block = true) → DataW.TrodVars enc P W' sp s.vars (s.fn H (ds ++ gs)).vars pv)
    (hps : before = pa ++ pv) (hb : Below W.heap.size W W')
    (hok : ∀ (j : Nat) (t : TypeId) (r : Value), f.resultTypes[j]? = some t → (v.resultList f.resultTypes.size)[j]? = some r → Value.okWide P W' .any 0 t r) :
    s.post enc P f apart fresh handsOn again W args v W' := by
  have hlt : ∀ p ∈ before, p.block < W.heap.size := fun p hp => hW.lt p hp
  have hold : ∀ p ∈ before, (fun b => decide (b < W.heap.size)) p.block = true := fun p hp => by simpa using hlt p hp
  refine ⟨ds, gs, before, [], pa, pv, hW, hres _ _ _, hargs _ hold, hvars _ hold, World.keptBut_mono (fun p hp => ⟨hp, ?_⟩) (hb.frame (· ∈ before)), fun _ => ?_⟩
  · rw [hps, List.mem_append] at hp
    exact Or.inr hp
  · obtain ⟨_, _, _, _, _, hz, hn⟩ := hW
    refine ⟨hok, _, _, ([] ++ pa) ++ pv, ⟨[] ++ pa, pv, trodAll_append (hargs _ (fun _ _ => rfl)) (hres _ _ _), hvars _ (fun _ _ => rfl), rfl, ?_, ?_⟩, ?_⟩
    · intro b off hp
      have hin : MemPlace.cell b off ∈ before := by rw [hps]; simpa using hp
      rw [hb.frozen (hlt _ hin)]
      exact hz b off hin
    · intro ha
      have := hn ha
      rw [hps] at this
      simpa using this
    · intro p hp _
      rw [hps]
      simpa using hp
end

end
theorem hide {p : Prop} (h : p) : Hid p := h
theorem unhide {p : Prop} (h : Hid p) : p := h

theorem results_tmp4 {fn : Func} {t u v x : Tmp} (h : fn.results = #[.tmp t, .tmp u, .tmp v, .tmp x]) (tmps : Array Value) (P : Program) (w : World) :
    (results fn tmps).run P w = .ok (.tuple #[tmps.getD t undef, tmps.getD u undef, tmps.getD v undef, tmps.getD x undef]) w := by simp [results, h]
theorem results_tmp5 {fn : Func} {t u v x y : Tmp} (h : fn.results = #[.tmp t, .tmp u, .tmp v, .tmp x, .tmp y]) (tmps : Array Value) (P : Program) (w : World) :
    (results fn tmps).run P w = .ok (.tuple #[tmps.getD t undef, tmps.getD u undef, tmps.getD v undef, tmps.getD x undef, tmps.getD y undef]) w := by simp [results, h]

theorem run_make_rowN {P : Program} (t e : TypeId) (i : TypeInfo) (z : Value) (ht : P.underlying t = some (.slice e)) (hi : P.info? e = some i) (hz : i.zero = some z)
    (kl kc : IntKind) (n c : Nat) (hnc : n ≤ c) (hbytes : i.bytes * c ≤ 281474976710656) (h63 : c ≤ 9223372036854775807) (w : World) :
    (Instr.makeSlice t (.int kl (n : Int)) (.int kc (c : Int))).run P w = .ok (.slice (some ⟨w.heap.size, 0, none⟩) n c) (w.alloc (.cells (madeCells z.cells (c * i.size)) e)) := by
  have hb : (i.bytes : Int) * (c : Int) ≤ 281474976710656 := by
    have h : ((i.bytes * c : Nat) : Int) ≤ 281474976710656 := by omega
    rwa [Int.natCast_mul] at h
  have hr := run_make (P := P) w t e i z ht hi hz kl kc n c (by omega) (by omega) hb (by omega)
  simp only [Int.toNat_natCast] at hr
  exact hr
theorem run_makeMap_hint {P : Program} (t k e : TypeId) (kd : IntKind) (n : Int) (ht : P.underlying t = some (.map k e)) (w : World) :
    (Instr.makeMap t (some (.int kd n))).run P w = .ok (.map (some w.heap.size)) (w.alloc (.map #[] 0)) := by
  simp [Instr.makeMap, run_underlying ht]; rfl

theorem ofInt_i64 (a : Nat) (ha : a < 9223372036854775808) : (BitVec.ofInt 64 (a : Int)).toNat = a := by
  rw [BitVec.ofInt_natCast, BitVec.toNat_ofNat]; exact Nat.mod_eq_of_lt (by omega)
theorem i64_and_nat (a b : Nat) (ha : a < 9223372036854775808) (hb : b < 9223372036854775808) : bits .and .i64 (a : Int) (b : Int) = ((a &&& b : Nat) : Int) := by
  have hx : a &&& b < 2 ^ 63 := Nat.and_lt_two_pow _ (by omega)
  show IntKind.i64.wrap ((BitVec.ofInt 64 (a : Int) &&& BitVec.ofInt 64 (b : Int)).toNat : Int) = _
  rw [BitVec.toNat_and, ofInt_i64 a ha, ofInt_i64 b hb, IntKind.wrap_i64]
  omega
theorem i64_or_nat (a b : Nat) (ha : a < 9223372036854775808) (hb : b < 9223372036854775808) : bits .or .i64 (a : Int) (b : Int) = ((a ||| b : Nat) : Int) := by
  have hx : a ||| b < 2 ^ 63 := Nat.or_lt_two_pow (by omega) (by omega)
  show IntKind.i64.wrap ((BitVec.ofInt 64 (a : Int) ||| BitVec.ofInt 64 (b : Int)).toNat : Int) = _
  rw [BitVec.toNat_or, ofInt_i64 a ha, ofInt_i64 b hb, IntKind.wrap_i64]
  omega
theorem i64_xor_nat (a b : Nat) (ha : a < 9223372036854775808) (hb : b < 9223372036854775808) : bits .xor .i64 (a : Int) (b : Int) = ((a ^^^ b : Nat) : Int) := by
  have hx : a ^^^ b < 2 ^ 63 := Nat.xor_lt_two_pow (by omega) (by omega)
  show IntKind.i64.wrap ((BitVec.ofInt 64 (a : Int) ^^^ BitVec.ofInt 64 (b : Int)).toNat : Int) = _
  rw [BitVec.toNat_xor, ofInt_i64 a ha, ofInt_i64 b hb, IntKind.wrap_i64]
  omega

theorem ret_int {k : IntKind} {a b : Int} (h : a = b) : Ending.returned (.int k a) = .returned (.int k b) := by rw [h]
theorem ret_bool {a b : Bool} (h : a = b) : Ending.returned (.bool a) = .returned (.bool b) := by rw [h]
theorem bcell {W w1 : World} (hb : Below W.heap.size W w1) : (∀ b o, b < W.heap.size → w1.cell? ⟨b, o, none⟩ = W.cell? ⟨b, o, none⟩) ∧ (∀ b o, b < W.heap.size → w1.frozen? ⟨b, o, none⟩ = W.frozen? ⟨b, o, none⟩) :=
  ⟨fun b o h => hb.cell (p := ⟨b, o, none⟩) h, fun b o h => hb.frozen (p := ⟨b, o, none⟩) h⟩
end Go.Proofs.YtbmocghfpcfmhaaDoor

namespace Go.Proofs.YtbmocghfpcfmhaaDoor
open Go.RowKit

theorem lt_of_cell {w : World} {p : Addr} {v : Value} (h : w.cell? p = some v) : p.block < w.heap.size := by
  rcases Nat.lt_or_ge p.block w.heap.size with hl | hl
  · exact hl
  · exfalso
    have : w.heap[p.block]? = none := Array.getElem?_eq_none hl
    simp [World.cell?, this] at h
theorem below_via {B : Nat} {a w w' : World} (h : Below B a w) (hB : B ≤ w.heap.size) (k : Below w.heap.size w w') : Below B a w' := h.trans (k.mono hB)
theorem below_cells {B : Nat} {W w1 : World} (hb : Below B W w1) : (∀ b o, b < B → w1.cell? ⟨b, o, none⟩ = W.cell? ⟨b, o, none⟩) ∧ (∀ b o, b < B → w1.frozen? ⟨b, o, none⟩ = W.frozen? ⟨b, o, none⟩) :=
  ⟨fun b o h => hb.cell (p := ⟨b, o, none⟩) h, fun b o h => hb.frozen (p := ⟨b, o, none⟩) h⟩
theorem Blk.off {w : World} {g : Nat} {t : TypeId} {cs : Array Value} (h : Blk w g t cs) {b o : Nat} (hp : g ≠ b) (u : Value) : Blk (w.setCell ⟨b, o, none⟩ u) g t cs := h.far (p := ⟨b, o, none⟩) hp u
theorem below_set {B : Nat} {a w : World} (h : Below B a w) {b o : Nat} (hp : B ≤ b) (u : Value) : Below B a (w.setCell ⟨b, o, none⟩ u) := h.setCell (p := ⟨b, o, none⟩) hp u
theorem keeps {w w' : World} (h : Below w.heap.size w w') : ∀ b o v, w.cell? ⟨b, o, none⟩ = some v → w'.cell? ⟨b, o, none⟩ = some v := fun b o _ hc => (h.cell (p := ⟨b, o, none⟩) (lt_of_cell hc)).trans hc

/-- what the call owns in W: each block of the list whole; what was there in w is as it was -/
def Own (w W : World) (L : List (Nat × TypeId × Array Value)) : Prop := Below w.heap.size w W ∧ ∀ x ∈ L, Blk W x.1 x.2.1 x.2.2
theorem Own.start (w : World) : Own w w [] := ⟨Below.refl _ _, fun _ h => by cases h⟩
theorem Own.to {w W W' : World} {L : List (Nat × TypeId × Array Value)} (h : Own w W L) (hb : Below W.heap.size W W') : Own w W' L :=
  ⟨below_via h.1 h.1.size hb, fun x hx => (h.2 x hx).below hb (h.2 x hx).lt⟩
theorem Own.drew {w W : World} {L : List (Nat × TypeId × Array Value)} (h : Own w W L) : Own w W.drew L := ⟨h.1.drew, fun x hx => (h.2 x hx).drew⟩
theorem Own.alloc {w W : World} {L : List (Nat × TypeId × Array Value)} (h : Own w W L) (cs : Array Value) (t : TypeId) : Own w (W.alloc (.cells cs t)) ((W.heap.size, t, cs) :: L) :=
  ⟨h.1.alloc h.1.size _, fun x hx => by
    rcases List.mem_cons.1 hx with rfl | hx
    · exact Blk.new W t cs
    · exact (h.2 x hx).alloc _⟩
/-- a store into the first block of the list -/
theorem Own.set0 {w W : World} {b : Nat} {t : TypeId} {cs : Array Value} {L : List (Nat × TypeId × Array Value)} (h : Own w W ((b, t, cs) :: L)) (hb : w.heap.size ≤ b) (hn : ∀ x ∈ L, x.1 ≠ b) (i : Nat) (u : Value) :
    Own w (W.setCell ⟨b, i, none⟩ u) ((b, t, cs.setIfInBounds i u) :: L) :=
  ⟨below_set h.1 hb u, fun x hx => by
    rcases List.mem_cons.1 hx with rfl | hx
    · exact (h.2 _ (List.mem_cons_self ..)).set_ i u
    · exact (h.2 x (List.mem_cons_of_mem _ hx)).off (hn x hx) u⟩
theorem Own.swap {w W : World} {x y : Nat × TypeId × Array Value} {L} (h : Own w W (x :: y :: L)) : Own w W (y :: x :: L) :=
  ⟨h.1, fun z hz => by
    rcases List.mem_cons.1 hz with rfl | hz
    · exact h.2 _ (by simp)
    · rcases List.mem_cons.1 hz with rfl | hz
      · exact h.2 _ (by simp)
      · exact h.2 _ (by simp [hz])⟩
/-- the rules that the walk uses of one block -/
def Rules (W : World) (x : Nat × TypeId × Array Value) : Prop := (∀ i, W.cell? ⟨x.1, i, none⟩ = x.2.2[i]?) ∧ (∀ i, W.frozen? ⟨x.1, i, none⟩ = false) ∧ x.1 < W.heap.size
theorem Blk.rules {W : World} {b : Nat} {t : TypeId} {cs : Array Value} (h : Blk W b t cs) : (∀ i, W.cell? ⟨b, i, none⟩ = cs[i]?) ∧ (∀ i, W.frozen? ⟨b, i, none⟩ = false) ∧ b < W.heap.size := ⟨h.cell, h.frozen, h.lt⟩
theorem Own.r1 {w W : World} {b0 : Nat} {t0 : TypeId} {c0 : Array Value} {L} (h : Own w W ((b0, t0, c0) :: L)) :
    (∀ i, W.cell? ⟨b0, i, none⟩ = c0[i]?) ∧ (∀ i, W.frozen? ⟨b0, i, none⟩ = false) ∧ b0 < W.heap.size := (h.2 (b0, t0, c0) (by simp)).rules
theorem Own.tail {w W : World} {x : Nat × TypeId × Array Value} {L} (h : Own w W (x :: L)) : Own w W L := ⟨h.1, fun y hy => h.2 y (List.mem_cons_of_mem _ hy)⟩
theorem Own.r2 {w W : World} {b0 b1 : Nat} {t0 t1 : TypeId} {c0 c1 : Array Value} {L} (h : Own w W ((b0, t0, c0) :: (b1, t1, c1) :: L)) :
    ((∀ i, W.cell? ⟨b0, i, none⟩ = c0[i]?) ∧ (∀ i, W.frozen? ⟨b0, i, none⟩ = false) ∧ b0 < W.heap.size) ∧
    ((∀ i, W.cell? ⟨b1, i, none⟩ = c1[i]?) ∧ (∀ i, W.frozen? ⟨b1, i, none⟩ = false) ∧ b1 < W.heap.size) := ⟨h.r1, h.tail.r1⟩
theorem Own.r3 {w W : World} {b0 b1 b2 : Nat} {t0 t1 t2 : TypeId} {c0 c1 c2 : Array Value} {L} (h : Own w W ((b0, t0, c0) :: (b1, t1, c1) :: (b2, t2, c2) :: L)) :
    ((∀ i, W.cell? ⟨b0, i, none⟩ = c0[i]?) ∧ (∀ i, W.frozen? ⟨b0, i, none⟩ = false) ∧ b0 < W.heap.size) ∧
    ((∀ i, W.cell? ⟨b1, i, none⟩ = c1[i]?) ∧ (∀ i, W.frozen? ⟨b1, i, none⟩ = false) ∧ b1 < W.heap.size) ∧
    ((∀ i, W.cell? ⟨b2, i, none⟩ = c2[i]?) ∧ (∀ i, W.frozen? ⟨b2, i, none⟩ = false) ∧ b2 < W.heap.size) := ⟨h.r1, h.tail.r2⟩
theorem Own.r4 {w W : World} {b0 b1 b2 b3 : Nat} {t0 t1 t2 t3 : TypeId} {c0 c1 c2 c3 : Array Value} {L} (h : Own w W ((b0, t0, c0) :: (b1, t1, c1) :: (b2, t2, c2) :: (b3, t3, c3) :: L)) :
    ((∀ i, W.cell? ⟨b0, i, none⟩ = c0[i]?) ∧ (∀ i, W.frozen? ⟨b0, i, none⟩ = false) ∧ b0 < W.heap.size) ∧
    ((∀ i, W.cell? ⟨b1, i, none⟩ = c1[i]?) ∧ (∀ i, W.frozen? ⟨b1, i, none⟩ = false) ∧ b1 < W.heap.size) ∧
    ((∀ i, W.cell? ⟨b2, i, none⟩ = c2[i]?) ∧ (∀ i, W.frozen? ⟨b2, i, none⟩ = false) ∧ b2 < W.heap.size) ∧
    ((∀ i, W.cell? ⟨b3, i, none⟩ = c3[i]?) ∧ (∀ i, W.frozen? ⟨b3, i, none⟩ = false) ∧ b3 < W.heap.size) := ⟨h.r1, h.tail.r3⟩
theorem Own.r5 {w W : World} {b0 b1 b2 b3 b4 : Nat} {t0 t1 t2 t3 t4 : TypeId} {c0 c1 c2 c3 c4 : Array Value} {L} (h : Own w W ((b0, t0, c0) :: (b1, t1, c1) :: (b2, t2, c2) :: (b3, t3, c3) :: (b4, t4, c4) :: L)) :
    ((∀ i, W.cell? ⟨b0, i, none⟩ = c0[i]?) ∧ (∀ i, W.frozen? ⟨b0, i, none⟩ = false) ∧ b0 < W.heap.size) ∧
    ((∀ i, W.cell? ⟨b1, i, none⟩ = c1[i]?) ∧ (∀ i, W.frozen? ⟨b1, i, none⟩ = false) ∧ b1 < W.heap.size) ∧
    ((∀ i, W.cell? ⟨b2, i, none⟩ = c2[i]?) ∧ (∀ i, W.frozen? ⟨b2, i, none⟩ = false) ∧ b2 < W.heap.size) ∧
    ((∀ i, W.cell? ⟨b3, i, none⟩ = c3[i]?) ∧ (∀ i, W.frozen? ⟨b3, i, none⟩ = false) ∧ b3 < W.heap.size) ∧
    ((∀ i, W.cell? ⟨b4, i, none⟩ = c4[i]?) ∧ (∀ i, W.frozen? ⟨b4, i, none⟩ = false) ∧ b4 < W.heap.size) := ⟨h.r1, h.tail.r4⟩
end Go.Proofs.YtbmocghfpcfmhaaDoor

namespace Go.Proofs.YtbmocghfpcfmhaaDoor
open Go.RowKit

theorem grown_of_below {w w' : World} (h : Below w.heap.size w w') (row : Option Nat) : w.grownBy w' row := ⟨h.os, h.tape, h.output, h.size, fun i hi _ => h.block i hi⟩
theorem row_below {w w' : World} {base : Nat} {e : TypeId} {size n : Nat} {v : Value} {xs : List Value} (h : w.ownsRow base e size v n xs) (hb : Below w.heap.size w w') : w'.ownsRow base e size v n xs :=
  h.kept (grown_of_below hb none) (by cases v.ownBlock <;> simp)
theorem row_drew {w : World} {base : Nat} {e : TypeId} {size n : Nat} {v : Value} {xs : List Value} (h : w.ownsRow base e size v n xs) : w.drew.ownsRow base e size v n xs := h
theorem row_set {w : World} {base g : Nat} {e t : TypeId} {size n : Nat} {v : Value} {xs : List Value} {cs : Array Value} (h : w.ownsRow base e size v n xs) (hB : Blk w g t cs) (hne : e ≠ t) (i : Nat) (u : Value) :
    (w.setCell ⟨g, i, none⟩ u).ownsRow base e size v n xs := by
  have hn := own_blk_ne h hB hne
  refine h.kept (row := some g) ⟨rfl, rfl, rfl, by simp [World.setCell], fun k hk hne => ?_⟩ (.inr hn)
  exact Below.heap_setCell w ⟨g, i, none⟩ u k (fun e => hne (by rw [e]))
theorem Own.grown {w W W' : World} {L : List (Nat × TypeId × Array Value)} {e : TypeId} {size n : Nat} {v : Value} {xs : List Value} (h : Own w W L) (hrow : W.ownsRow w.heap.size e size v n xs) (hg : W.grownBy W' v.ownBlock)
    (hty : ∀ x ∈ L, e ≠ x.2.1) : Own w W' L :=
  ⟨h.1.grown hg h.1.size (fun k hk => (hrow.lt k hk).1), fun x hx => (h.2 x hx).grown hg (fun e' => own_blk_ne hrow (h.2 x hx) (hty x hx) e'.symm)⟩

/-- a slice of integers that reads as a list -/
def IntSl (w : World) (A : Option Addr) (l : List Int) : Prop :=
  (l.length ≤ 9223372036854775807 ∧ ∀ i (h : i < l.length), -9223372036854775808 ≤ l[i] ∧ l[i] ≤ 9223372036854775807) ∧ (0 < l.length → ∃ b off, A = some ⟨b, off, none⟩ ∧ b < w.heap.size ∧ ∀ i (h : i < l.length), w.cell? ⟨b, off + i, none⟩ = some (.int .i64 l[i]))
theorem IntSl.below {w w' : World} {A : Option Addr} {l : List Int} (h : IntSl w A l) (hb : Below w.heap.size w w') : IntSl w' A l :=
  ⟨h.1, fun hl => by obtain ⟨b, off, e, hlt, hat⟩ := h.2 hl; exact ⟨b, off, e, Nat.lt_of_lt_of_le hlt hb.size, fun i hi => (hb.cell (p := ⟨b, off + i, none⟩) hlt).trans (hat i hi)⟩⟩
theorem IntSl.nil (w : World) (A : Option Addr) : IntSl w A [] := ⟨⟨by simp, fun i h => by simp at h⟩, fun h => by simp at h⟩
/-- a row of the call's own that holds integers, read as a slice -/
theorem IntSl.of_row {w : World} {base : Nat} {e : TypeId} {v : Value} {n : Nat} {l : List Int} (h : w.ownsRow base e 1 v n (l.map (Value.int .i64)))
    (hb : l.length ≤ 9223372036854775807) (hr : ∀ i (h : i < l.length), -9223372036854775808 ≤ l[i] ∧ l[i] ≤ 9223372036854775807) : ∃ A c, v = .slice A l.length c ∧ IntSl w A l := by
  have hn : l.length = n := by have := h.1; simpa using this
  rcases h.2 with ⟨rfl, h0⟩ | ⟨g, cap, cur, rfl, hg, hcell, hnc, _, hsz, htake⟩
  · rw [h0] at hn
    have : l = [] := List.eq_nil_of_length_eq_zero hn
    subst this
    exact ⟨none, 0, rfl, IntSl.nil w none⟩
  · subst hn
    refine ⟨some ⟨g, 0, none⟩, cap, rfl, ⟨hb, hr⟩, fun _ => ⟨g, 0, rfl, (Array.getElem?_eq_some_iff.1 hcell).1, fun i hi => ?_⟩⟩
    have hc := h.cells (g := g) rfl i (.int .i64 l[i]) (by simp [hi])
    have e : (⟨g, 0, none⟩ : Addr).add i = ⟨g, 0 + i, none⟩ := by unfold Addr.add; split <;> simp_all
    rw [e] at hc
    exact hc
end Go.Proofs.YtbmocghfpcfmhaaDoor

namespace Go.Proofs.YtbmocghfpcfmhaaDoor
open Go Go.RowKit

structure Spt where
  x : Int
  y : Int
  z : Int
structure Fce where
  a : Int
  b : Int
  c : Int
  k : Int
structure Msh where
  ss : List Spt
  fs : List Fce
structure MshA where
  A1 : Option Addr
  c1 : Nat
  A2 : Option Addr
  c2 : Nat
abbrev Spt.val (s : Spt) : Value := .agg #[.int .i64 s.x, .int .i64 s.y, .int .i64 s.z]
abbrev Fce.val (f : Fce) : Value := .agg #[.int .i64 f.a, .int .i64 f.b, .int .i64 f.c, .int .i64 f.k]
abbrev Msh.cells (m : Msh) (a : MshA) : Array Value := #[.slice a.A1 m.ss.length a.c1, .slice a.A2 m.fs.length a.c2]
abbrev Msh.val (m : Msh) (a : MshA) : Value := .agg (m.cells a)
def i64 (n : Int) : Prop := -9223372036854775808 ≤ n ∧ n ≤ 9223372036854775807
def SptAt (w : World) (b o : Nat) (s : Spt) : Prop := w.cell? ⟨b, o, none⟩ = some (.int .i64 s.x) ∧ w.cell? ⟨b, o + 1, none⟩ = some (.int .i64 s.y) ∧ w.cell? ⟨b, o + 2, none⟩ = some (.int .i64 s.z)
def FceAt (w : World) (b o : Nat) (f : Fce) : Prop :=
  w.cell? ⟨b, o, none⟩ = some (.int .i64 f.a) ∧ w.cell? ⟨b, o + 1, none⟩ = some (.int .i64 f.b) ∧ w.cell? ⟨b, o + 2, none⟩ = some (.int .i64 f.c) ∧ w.cell? ⟨b, o + 3, none⟩ = some (.int .i64 f.k)
def SptSl (w : World) (A : Option Addr) (l : List Spt) : Prop :=
  (l.length ≤ maxLen ∧ ∀ i (h : i < l.length), i64 l[i].x ∧ i64 l[i].y ∧ i64 l[i].z) ∧ (0 < l.length → ∃ b off, A = some ⟨b, off, none⟩ ∧ b < w.heap.size ∧ ∀ i (h : i < l.length), SptAt w b (off + i * 3) l[i])
def FceSl (w : World) (A : Option Addr) (l : List Fce) : Prop :=
  (l.length ≤ maxLen ∧ ∀ i (h : i < l.length), i64 l[i].a ∧ i64 l[i].b ∧ i64 l[i].c ∧ i64 l[i].k) ∧ (0 < l.length → ∃ b off, A = some ⟨b, off, none⟩ ∧ b < w.heap.size ∧ ∀ i (h : i < l.length), FceAt w b (off + i * 4) l[i])
theorem SptSl.below {w w' : World} {A : Option Addr} {l : List Spt} (h : SptSl w A l) (hb : Below w.heap.size w w') : SptSl w' A l :=
  ⟨h.1, fun hl => by
    obtain ⟨b, off, e, hlt, hat⟩ := h.2 hl
    have k := fun (i : Nat) => hb.cell (p := ⟨b, i, none⟩) hlt
    exact ⟨b, off, e, Nat.lt_of_lt_of_le hlt hb.size, fun i hi => ⟨(k _).trans (hat i hi).1, (k _).trans (hat i hi).2.1, (k _).trans (hat i hi).2.2⟩⟩⟩
theorem FceSl.below {w w' : World} {A : Option Addr} {l : List Fce} (h : FceSl w A l) (hb : Below w.heap.size w w') : FceSl w' A l :=
  ⟨h.1, fun hl => by
    obtain ⟨b, off, e, hlt, hat⟩ := h.2 hl
    have k := fun (i : Nat) => hb.cell (p := ⟨b, i, none⟩) hlt
    exact ⟨b, off, e, Nat.lt_of_lt_of_le hlt hb.size, fun i hi => ⟨(k _).trans (hat i hi).1, (k _).trans (hat i hi).2.1, (k _).trans (hat i hi).2.2.1, (k _).trans (hat i hi).2.2.2⟩⟩⟩
def MshSl (w : World) (m : Msh) (a : MshA) : Prop := SptSl w a.A1 m.ss ∧ FceSl w a.A2 m.fs
theorem MshSl.below {w w' : World} {m : Msh} {a : MshA} (h : MshSl w m a) (hb : Below w.heap.size w w') : MshSl w' m a := ⟨h.1.below hb, h.2.below hb⟩
/-- points -/
structure Pnt where
  x : Int
  y : Int
deriving DecidableEq
abbrev Pnt.val (p : Pnt) : Value := .agg #[.int .i64 p.x, .int .i64 p.y]
def Pnt.in (p : Pnt) : Prop := (-16777216 ≤ p.x ∧ p.x ≤ 16777216) ∧ -16777216 ≤ p.y ∧ p.y ≤ 16777216
def inP (p : Pnt) : Bool := decide (-16777216 ≤ p.x) && decide (p.x ≤ 16777216) && decide (-16777216 ≤ p.y) && decide (p.y ≤ 16777216)
theorem inP_iff {p : Pnt} : inP p = true ↔ p.in := by simp [inP, Pnt.in]; omega
def Spt.pt (s : Spt) : Pnt := ⟨s.x, s.y⟩
def okS (s : Spt) : Bool := inP s.pt && decide (-4194304 ≤ s.z) && decide (s.z ≤ 4194304)
theorem okS_in {s : Spt} (h : okS s = true) : s.pt.in := by
  simp only [okS, Bool.and_eq_true] at h
  exact inP_iff.1 h.1.1
def trn (a b c : Pnt) : Int := (b.x - a.x) * (c.y - a.y) - (b.y - a.y) * (c.x - a.x)
theorem mul_bd {x y : Int} {n : Nat} (hx : -(n : Int) ≤ x ∧ x ≤ n) (hy : -(n : Int) ≤ y ∧ y ≤ n) : -((n * n : Nat) : Int) ≤ x * y ∧ x * y ≤ ((n * n : Nat) : Int) := by
  have h1 : x.natAbs ≤ n := by omega
  have h2 : y.natAbs ≤ n := by omega
  have h3 : (x * y).natAbs ≤ n * n := by rw [Int.natAbs_mul]; exact Nat.mul_le_mul h1 h2
  omega
theorem trn_bd {a b c : Pnt} (ha : a.in) (hb : b.in) (hc : c.in) : (-1125899906842624 ≤ (b.x - a.x) * (c.y - a.y) ∧ (b.x - a.x) * (c.y - a.y) ≤ 1125899906842624) ∧ (-1125899906842624 ≤ (b.y - a.y) * (c.x - a.x) ∧ (b.y - a.y) * (c.x - a.x) ≤ 1125899906842624) := by
  obtain ⟨⟨a1, a2⟩, a3, a4⟩ := ha
  obtain ⟨⟨b1, b2⟩, b3, b4⟩ := hb
  obtain ⟨⟨c1, c2⟩, c3, c4⟩ := hc
  have m1 := mul_bd (x := b.x - a.x) (y := c.y - a.y) (n := 33554432) (by omega) (by omega)
  have m2 := mul_bd (x := b.y - a.y) (y := c.x - a.x) (n := 33554432) (by omega) (by omega)
  exact ⟨m1, m2⟩
structure Tri where
  p : Pnt
  q : Pnt
  r : Pnt
abbrev Tri.cells (t : Tri) : List Value := [.int .i64 t.p.x, .int .i64 t.p.y, .int .i64 t.q.x, .int .i64 t.q.y, .int .i64 t.r.x, .int .i64 t.r.y]
def Tri.in (t : Tri) : Prop := t.p.in ∧ t.q.in ∧ t.r.in
/-- a line has a triangle on its right, or on itself -/
def rgt (a b : Pnt) (u : Tri) : Bool := decide (trn a b u.p ≤ 0) && decide (trn a b u.q ≤ 0) && decide (trn a b u.r ≤ 0)
def sepB (t u : Tri) : Bool := rgt t.p t.q u || rgt t.q t.r u || rgt t.r t.p u
def ovlB (t u : Tri) : Bool := !sepB t u && !sepB u t
def spA (l : List Spt) (i : Int) : Spt := l.getD i.toNat ⟨0, 0, 0⟩
def triA (l : List Spt) (f : Fce) : Tri := ⟨(spA l f.a).pt, (spA l f.b).pt, (spA l f.c).pt⟩
/-- a corner is right -/
def cnB (l : List Spt) (i : Int) : Bool := decide (0 ≤ i) && decide (i < l.length) && okS (spA l i)
def crB (l : List Spt) (f : Fce) : Bool := cnB l f.a && cnB l f.b && cnB l f.c && !decide (f.a = f.b) && !decide (f.b = f.c) && !decide (f.c = f.a) && decide (0 ≤ f.k) && decide (f.k < 16)
/-- the sides of a face -/
def sdA (f : Fce) : Nat → Int × Int
  | 0 => (f.a, f.b)
  | 1 => (f.b, f.c)
  | _ => (f.c, f.a)
def ssB (f g : Fce) : Bool := (List.range 3).any fun i => (List.range 3).any fun k => decide (sdA f i = sdA g k)
def posB (l : List Spt) (f : Fce) : Bool := decide (0 < trn (triA l f).p (triA l f).q (triA l f).r)
/-- the indices of the findings of each kind -/
def fin1 (l : List Spt) (n : Nat) : List Nat := (List.range n).filter fun i => !okS (spA l i)
def fin2 (l : List Spt) (n : Nat) : List Nat := (List.range n).filter fun i => okS (spA l i) && (List.range i).any fun k => okS (spA l k) && decide ((spA l k).pt = (spA l i).pt)
def fcA (g : List Fce) (i : Nat) : Fce := g.getD i ⟨0, 0, 0, 0⟩
def snd (l : List Spt) (g : List Fce) (n : Nat) : List Nat := (List.range n).filter fun i => crB l (fcA g i) && posB l (fcA g i)
def fin3 (l : List Spt) (g : List Fce) (n : Nat) : List Nat := (List.range n).filter fun i => !crB l (fcA g i)
def fin4 (l : List Spt) (g : List Fce) (n : Nat) : List Nat := (List.range n).filter fun i => crB l (fcA g i) && !posB l (fcA g i)
def fin5 (l : List Spt) (g : List Fce) (n : Nat) : List Nat := (List.range n).filter fun i => (crB l (fcA g i) && posB l (fcA g i)) && (snd l g i).any fun k => ssB (fcA g i) (fcA g k)
def fin6 (l : List Spt) (g : List Fce) (n : Nat) : List Nat := (List.range n).filter fun i => (crB l (fcA g i) && posB l (fcA g i)) && (snd l g i).any fun k => ovlB (triA l (fcA g i)) (triA l (fcA g k))
def smB (m : Msh) : Bool := decide (m.ss.length ≤ 2000) && decide (m.fs.length ≤ 4000)
/-- a surface is valid -/
def vM (m : Msh) : Bool := smB m && decide (fin1 m.ss m.ss.length = [] ∧ fin2 m.ss m.ss.length = [] ∧ fin3 m.ss m.fs m.fs.length = [] ∧ fin4 m.ss m.fs m.fs.length = [] ∧ fin5 m.ss m.fs m.fs.length = [] ∧ fin6 m.ss m.fs m.fs.length = [])
theorem filt_s {p : Nat → Bool} (n : Nat) : (List.range (n + 1)).filter p = (List.range n).filter p ++ if p n = true then [n] else [] := by
  rw [List.range_succ, List.filter_append]
  congr 1
  simp [List.filter_cons]
theorem filt_0 {p : Nat → Bool} : (List.range 0).filter p = [] := rfl
end Go.Proofs.YtbmocghfpcfmhaaDoor

namespace Go.Proofs.YtbmocghfpcfmhaaDoor
open Go Go.RowKit

theorem trn_bd2 {a b c : Pnt} (ha : a.in) (hb : b.in) (hc : c.in) : -2251799813685248 ≤ trn a b c ∧ trn a b c ≤ 2251799813685248 := by
  obtain ⟨h1, h2⟩ := trn_bd ha hb hc
  unfold trn
  omega
/-- the faces of a valid surface are right -/
theorem vM_face {ss : List Spt} {fs : List Fce} (h : vM ⟨ss, fs⟩ = true) : ∀ i, i < fs.length → crB ss (fcA fs i) = true ∧ posB ss (fcA fs i) = true := by
  intro i hi
  simp only [vM, Bool.and_eq_true, decide_eq_true_eq] at h
  obtain ⟨_, _, _, h3, h4, _⟩ := h
  have k3 : ¬ i ∈ fin3 ss fs fs.length := by
    rw [show fin3 ss fs fs.length = [] from h3]; simp
  have k4 : ¬ i ∈ fin4 ss fs fs.length := by
    rw [show fin4 ss fs fs.length = [] from h4]; simp
  have c : crB ss (fcA fs i) = true := by
    cases e : crB ss (fcA fs i) with
    | true => rfl
    | false => exact absurd (by simp [fin3, hi, e]) k3
  refine ⟨c, ?_⟩
  cases e : posB ss (fcA fs i) with
  | true => rfl
  | false => exact absurd (by simp [fin4, hi, e, c]) k4
theorem vM_small {ss : List Spt} {fs : List Fce} (h : vM ⟨ss, fs⟩ = true) : ss.length ≤ 2000 ∧ fs.length ≤ 4000 := by
  simp only [vM, smB, Bool.and_eq_true, decide_eq_true_eq] at h
  exact h.1
end Go.Proofs.YtbmocghfpcfmhaaDoor

namespace Go.Proofs.YtbmocghfpcfmhaaDoor

structure Sp where
  lo : Int
  hi : Int
abbrev Sp.val (a : Sp) : Value := .agg #[.int .i64 a.lo, .int .i64 a.hi]
def Sp.zero : Sp := ⟨0, 0⟩
def fitB (n : Int) : Bool := decide (-72057594037927936 ≤ n ∧ n ≤ 72057594037927936)
theorem fitB_iff {n : Int} : fitB n = true ↔ -72057594037927936 ≤ n ∧ n ≤ 72057594037927936 := by simp [fitB]
theorem fitB_not {n : Int} : fitB n = false ↔ n < -72057594037927936 ∨ 72057594037927936 < n := by simp [fitB]; omega
def vB (a : Sp) : Bool := decide (a.lo ≤ a.hi) && fitB a.lo && fitB a.hi
theorem vB_iff {a : Sp} : vB a = true ↔ a.lo ≤ a.hi ∧ -72057594037927936 ≤ a.lo ∧ a.hi ≤ 72057594037927936 := by
  simp only [vB, Bool.and_eq_true, decide_eq_true_eq, fitB_iff]; omega
def resE (lo hi : Int) : Int := if fitB lo = true ∧ fitB hi = true then 0 else 5
def resS (lo hi : Int) : Sp := if fitB lo = true ∧ fitB hi = true then ⟨lo, hi⟩ else Sp.zero
/-- a quotient rounded down, for any divisor that is not 0; and up -/
def dn (n d : Int) : Int := if d < 0 then (-n) / (-d) else n / d
def up (n d : Int) : Int := -dn (-n) d
theorem dn_bd {n d : Int} (hd : 0 < d) : dn n d * d ≤ n ∧ n < (dn n d + 1) * d := by
  unfold dn
  rw [if_neg (by omega)]
  have h := Int.mul_ediv_add_emod n d
  have h1 := Int.emod_nonneg n (by omega : d ≠ 0)
  have h2 := Int.emod_lt_of_pos n hd
  have e : (n / d + 1) * d = d * (n / d) + d := by rw [Int.add_mul, Int.mul_comm]; omega
  have e2 : n / d * d = d * (n / d) := Int.mul_comm _ _
  omega
theorem dn_neg (n d : Int) (hd : d < 0) : dn n d = dn (-n) (-d) := by
  unfold dn; rw [if_pos hd, if_neg (by omega)]
theorem dn_uniq {n d q : Int} (hd : 0 < d) (h1 : q * d ≤ n) (h2 : n < (q + 1) * d) : dn n d = q := by
  obtain ⟨k1, k2⟩ := dn_bd (n := n) hd
  have a : dn n d < q + 1 := by
    apply Int.lt_of_mul_lt_mul_right (a := d) _ (by omega)
    omega
  have b : q < dn n d + 1 := by
    apply Int.lt_of_mul_lt_mul_right (a := d) _ (by omega)
    omega
  omega
theorem up_bd {n d : Int} (hd : 0 < d) : n ≤ up n d * d ∧ (up n d - 1) * d < n := by
  obtain ⟨k1, k2⟩ := dn_bd (n := -n) hd
  unfold up
  have e1 : -dn (-n) d * d = -(dn (-n) d * d) := by rw [Int.neg_mul]
  have e2 : (-dn (-n) d - 1) * d = -((dn (-n) d + 1) * d) := by rw [← Int.neg_mul]; congr 1; omega
  omega
/-- the quotient of magnitudes, with a sign -/
theorem dn_mag {m d : Nat} (hd : 0 < d) (s : Int) (hs : s = 1 ∨ s = -1) (t : Int) (ht : t = 1 ∨ t = -1) :
    dn (s * m) (t * d) = if s = t then ((m / d : Nat) : Int) else -(((m / d : Nat) : Int) + if m % d = 0 then 0 else 1) := by
  have h := Nat.div_add_mod m d
  have hlt := Nat.mod_lt m hd
  have hz : (m : Int) = d * (m / d : Nat) + (m % d : Nat) := by
    have : ((d * (m / d) + m % d : Nat) : Int) = m := by rw [h]
    rw [← this]; simp
  generalize (m / d) = q at *
  generalize (m % d) = r at *
  have same : dn (m : Int) (d : Int) = q := by
    apply dn_uniq (by omega)
    · rw [Int.mul_comm]; omega
    · rw [Int.add_mul, Int.mul_comm]; omega
  have opp : dn (-(m : Int)) (d : Int) = -((q : Int) + if r = 0 then 0 else 1) := by
    apply dn_uniq (by omega)
    · by_cases e : r = 0
      · rw [if_pos e, Int.add_zero, Int.neg_mul, Int.mul_comm (q : Int)]; omega
      · rw [if_neg e, Int.neg_mul, Int.add_mul, Int.mul_comm (q : Int)]; omega
    · by_cases e : r = 0
      · rw [if_pos e, Int.add_zero, Int.add_mul, Int.neg_mul, Int.mul_comm (q : Int)]; omega
      · rw [if_neg e, show -((q : Int) + 1) + 1 = -(q : Int) by omega, Int.neg_mul, Int.mul_comm (q : Int)]; omega
  rcases hs with rfl | rfl <;> rcases ht with rfl | rfl
  · simp only [Int.one_mul, if_true]; exact same
  · rw [dn_neg _ _ (by omega), if_neg (by omega)]; simp only [Int.one_mul, Int.neg_mul, Int.neg_neg]; exact opp
  · rw [if_neg (by omega)]; simp only [Int.one_mul, Int.neg_mul]; exact opp
  · rw [dn_neg _ _ (by omega), if_pos rfl]; simp only [Int.one_mul, Int.neg_mul, Int.neg_neg]; exact same
/-- the greatest integer whose square is at most a number -/
def isqN : Nat → Nat
  | 0 => 0
  | n + 1 => if (isqN n + 1) * (isqN n + 1) ≤ n + 1 then isqN n + 1 else isqN n
theorem isqN_bd : ∀ n : Nat, isqN n * isqN n ≤ n ∧ n < (isqN n + 1) * (isqN n + 1)
  | 0 => by simp [isqN]
  | n + 1 => by
    obtain ⟨h1, h2⟩ := isqN_bd n
    unfold isqN
    split
    · rename_i h
      refine ⟨h, ?_⟩
      have : (isqN n + 1 + 1) * (isqN n + 1 + 1) = (isqN n + 1) * (isqN n + 1) + 2 * (isqN n + 1) + 1 := by
        generalize isqN n + 1 = x
        simp only [Nat.add_mul, Nat.mul_add]; omega
      omega
    · exact ⟨by omega, by omega⟩
def isq (n : Int) : Int := isqN n.toNat
theorem isq_bd {n : Int} (h : 0 ≤ n) : 0 ≤ isq n ∧ isq n * isq n ≤ n ∧ n < (isq n + 1) * (isq n + 1) := by
  obtain ⟨h1, h2⟩ := isqN_bd n.toNat
  unfold isq
  refine ⟨by omega, ?_, ?_⟩
  · have : ((isqN n.toNat * isqN n.toNat : Nat) : Int) ≤ n := by omega
    simpa using this
  · have : n < (((isqN n.toNat + 1) * (isqN n.toNat + 1) : Nat) : Int) := by omega
    simpa using this
theorem sq_lt {a b : Int} (ha : 0 ≤ a) (h : a * a < b * b) (hb : 0 ≤ b) : a < b := by
  rcases Int.lt_or_le a b with k | k
  · exact k
  · have := Int.mul_le_mul k k hb ha
    omega
theorem sq_le {a b : Int} (ha : 0 ≤ a) (h : a ≤ b) : a * a ≤ b * b := Int.mul_le_mul h h ha (by omega)
theorem isq_uniq {n r : Int} (h : 0 ≤ n) (h0 : 0 ≤ r) (h1 : r * r ≤ n) (h2 : n < (r + 1) * (r + 1)) : isq n = r := by
  obtain ⟨k0, k1, k2⟩ := isq_bd h
  have a := sq_lt (a := r) (b := isq n + 1) h0 (by omega) (by omega)
  have b := sq_lt (a := isq n) (b := r + 1) k0 (by omega) (by omega)
  omega
theorem isq_mono {n m : Int} (h : 0 ≤ n) (hm : n ≤ m) : isq n ≤ isq m := by
  obtain ⟨k0, k1, k2⟩ := isq_bd h
  obtain ⟨j0, j1, j2⟩ := isq_bd (n := m) (by omega)
  have := sq_lt (a := isq n) (b := isq m + 1) k0 (by omega) (by omega)
  omega
def isqU (n : Int) : Int := if isq n * isq n < n then isq n + 1 else isq n
def negE (a : Sp) : Int := if vB a = true then 0 else 1
def negS (a : Sp) : Sp := if vB a = true then ⟨-a.hi, -a.lo⟩ else Sp.zero
theorem neg_yes {a : Sp} (h : vB a = true) : negE a = 0 ∧ negS a = ⟨-a.hi, -a.lo⟩ := by simp [negE, negS, h]
theorem neg_no {a : Sp} (h : vB a = false) : negE a = 1 ∧ negS a = Sp.zero := by simp [negE, negS, h]
def hullS (a b : Sp) : Sp := ⟨if b.lo < a.lo then b.lo else a.lo, if a.hi < b.hi then b.hi else a.hi⟩
def meetV (a b : Sp) : Sp := ⟨if a.lo < b.lo then b.lo else a.lo, if b.hi < a.hi then b.hi else a.hi⟩
def meetE (a b : Sp) : Int := if (meetV a b).lo ≤ (meetV a b).hi then 0 else 21
def meetS (a b : Sp) : Sp := if (meetV a b).lo ≤ (meetV a b).hi then meetV a b else Sp.zero
end Go.Proofs.YtbmocghfpcfmhaaDoor

namespace Go.Proofs.YtbmocghfpcfmhaaDoor

/-- the k-th point of a line in 16 parts -/
def ptA (a b : Pnt) (k : Nat) : Pnt := ⟨a.x + (b.x - a.x) * (k : Int) / 16, a.y + (b.y - a.y) * (k : Int) / 16⟩
theorem part_bd {d : Int} {k : Nat} (hk : k ≤ 16) : (0 ≤ d → 0 ≤ d * (k : Int) ∧ d * (k : Int) ≤ d * 16) ∧ (d ≤ 0 → d * 16 ≤ d * (k : Int) ∧ d * (k : Int) ≤ 0) := by
  refine ⟨fun h => ⟨Int.mul_nonneg h (by omega), Int.mul_le_mul_of_nonneg_left (by omega) h⟩, fun h => ?_⟩
  have h1 : 0 ≤ (-d) * (k : Int) := Int.mul_nonneg (by omega) (by omega)
  have h2 : (-d) * (k : Int) ≤ (-d) * 16 := Int.mul_le_mul_of_nonneg_left (by omega) (by omega)
  rw [Int.neg_mul] at h1 h2
  omega
theorem ptA_bd {x y : Int} {k : Nat} (hx : -16777216 ≤ x ∧ x ≤ 16777216) (hy : -16777216 ≤ y ∧ y ≤ 16777216) (hk : k ≤ 16) :
    (-536870912 ≤ (y - x) * (k : Int) ∧ (y - x) * (k : Int) ≤ 536870912) ∧ -16777216 ≤ x + (y - x) * (k : Int) / 16 ∧ x + (y - x) * (k : Int) / 16 ≤ 16777216 := by
  obtain ⟨h1, h2⟩ := part_bd (d := y - x) hk
  generalize (y - x) * (k : Int) = t at *
  omega
theorem ptA_in {a b : Pnt} (ha : a.in) (hb : b.in) {k : Nat} (hk : k ≤ 16) : (ptA a b k).in :=
  ⟨(ptA_bd ha.1 hb.1 hk).2, (ptA_bd ha.2 hb.2 hk).2⟩
/-- a point is on a triangle -/
def onB (t : Tri) (p : Pnt) : Bool := decide (0 ≤ trn t.p t.q p) && decide (0 ≤ trn t.q t.r p) && decide (0 ≤ trn t.r t.p p)
/-- the face of a point -/
def fdA (m : Msh) (p : Pnt) : Option Nat := m.fs.findIdx? fun f => onB (triA m.ss f) p
theorem fdA_some {m : Msh} {p : Pnt} {i : Nat} : fdA m p = some i ↔ ∃ h : i < m.fs.length, onB (triA m.ss m.fs[i]) p = true ∧ ∀ j (hj : j < m.fs.length), j < i → onB (triA m.ss m.fs[j]) p = false := by
  unfold fdA
  rw [List.findIdx?_eq_some_iff_getElem]
  constructor
  · rintro ⟨h, h1, h2⟩
    exact ⟨h, h1, fun j hj hji => by simpa using h2 j hji⟩
  · rintro ⟨h, h1, h2⟩
    exact ⟨h, h1, fun j hji => by simpa using h2 j (by omega) hji⟩
theorem fdA_none {m : Msh} {p : Pnt} : fdA m p = none ↔ ∀ j (hj : j < m.fs.length), onB (triA m.ss m.fs[j]) p = false := by
  unfold fdA
  rw [List.findIdx?_eq_none_iff]
  constructor
  · intro h j hj; exact h _ (List.getElem_mem hj)
  · intro h x hx
    obtain ⟨j, hj, rfl⟩ := List.getElem_of_mem hx
    exact h j hj
/-- the level of a point on a face: a numerator and a denominator -/
def numA (l : List Spt) (f : Fce) (p : Pnt) : Int :=
  (spA l f.a).z * trn p (triA l f).q (triA l f).r + (spA l f.b).z * trn p (triA l f).r (triA l f).p + (spA l f.c).z * trn p (triA l f).p (triA l f).q
def denA (l : List Spt) (f : Fce) : Int := trn (triA l f).p (triA l f).q (triA l f).r
theorem trn_cyc (a b c : Pnt) : trn a b c = trn b c a := by unfold trn; grind
theorem trn_sum (a b c p : Pnt) : trn p b c + trn p c a + trn p a b = trn a b c := by unfold trn; grind
theorem mul_le_c {z w : Int} (hz : -4194304 ≤ z ∧ z ≤ 4194304) (hw : 0 ≤ w) : -(4194304 * w) ≤ z * w ∧ z * w ≤ 4194304 * w := by
  refine ⟨?_, Int.mul_le_mul_of_nonneg_right hz.2 hw⟩
  have := Int.mul_le_mul_of_nonneg_right hz.1 hw
  omega
/-- what is known of a face of a valid surface that a point is on -/
structure OnF (l : List Spt) (f : Fce) (p : Pnt) : Prop where
  a : 0 ≤ f.a ∧ f.a < l.length
  b : 0 ≤ f.b ∧ f.b < l.length
  c : 0 ≤ f.c ∧ f.c < l.length
  za : -4194304 ≤ (spA l f.a).z ∧ (spA l f.a).z ≤ 4194304
  zb : -4194304 ≤ (spA l f.b).z ∧ (spA l f.b).z ≤ 4194304
  zc : -4194304 ≤ (spA l f.c).z ∧ (spA l f.c).z ≤ 4194304
  i : (triA l f).in
  w1 : 0 ≤ trn p (triA l f).q (triA l f).r
  w2 : 0 ≤ trn p (triA l f).r (triA l f).p
  w3 : 0 ≤ trn p (triA l f).p (triA l f).q
  d : 0 < denA l f
structure OkF (l : List Spt) (f : Fce) : Prop where
  a : 0 ≤ f.a ∧ f.a < l.length
  b : 0 ≤ f.b ∧ f.b < l.length
  c : 0 ≤ f.c ∧ f.c < l.length
  za : -4194304 ≤ (spA l f.a).z ∧ (spA l f.a).z ≤ 4194304
  zb : -4194304 ≤ (spA l f.b).z ∧ (spA l f.b).z ≤ 4194304
  zc : -4194304 ≤ (spA l f.c).z ∧ (spA l f.c).z ≤ 4194304
  i : (triA l f).in
  d : 0 < denA l f
theorem cnB_ok {l : List Spt} {i : Int} (h : cnB l i = true) : (0 ≤ i ∧ i < l.length) ∧ (-4194304 ≤ (spA l i).z ∧ (spA l i).z ≤ 4194304) ∧ (spA l i).pt.in := by
  simp only [cnB, Bool.and_eq_true, decide_eq_true_eq] at h
  refine ⟨⟨h.1.1, h.1.2⟩, ?_, okS_in h.2⟩
  have := h.2
  simp only [okS, Bool.and_eq_true, decide_eq_true_eq] at this
  exact ⟨this.1.2, this.2⟩
theorem okF_of {m : Msh} (h : vM m = true) {i : Nat} (hi : i < m.fs.length) : OkF m.ss m.fs[i] := by
  obtain ⟨ss, fs⟩ := m
  obtain ⟨hc, hp⟩ := vM_face h i hi
  have e : fcA fs i = fs[i] := by simp [fcA, hi]
  rw [e] at hc hp
  simp only [crB, Bool.and_eq_true] at hc
  obtain ⟨⟨⟨⟨⟨⟨⟨h1, h2⟩, h3⟩, _⟩, _⟩, _⟩, _⟩, _⟩ := hc
  obtain ⟨a1, a2, a3⟩ := cnB_ok h1
  obtain ⟨b1, b2, b3⟩ := cnB_ok h2
  obtain ⟨c1, c2, c3⟩ := cnB_ok h3
  exact ⟨a1, b1, c1, a2, b2, c2, ⟨a3, b3, c3⟩, by simpa [posB, denA] using hp⟩
theorem onF_of {l : List Spt} {f : Fce} {p : Pnt} (k : OkF l f) (h : onB (triA l f) p = true) : OnF l f p := by
  simp only [onB, Bool.and_eq_true, decide_eq_true_eq] at h
  obtain ⟨⟨h1, h2⟩, h3⟩ := h
  exact ⟨k.a, k.b, k.c, k.za, k.zb, k.zc, k.i, by rw [trn_cyc]; exact h2, by rw [trn_cyc]; exact h3, by rw [trn_cyc]; exact h1, k.d⟩
theorem OnF.num {l : List Spt} {f : Fce} {p : Pnt} (h : OnF l f p) : -(4194304 * denA l f) ≤ numA l f p ∧ numA l f p ≤ 4194304 * denA l f := by
  have e := trn_sum (triA l f).p (triA l f).q (triA l f).r p
  have h1 := mul_le_c h.za h.w1
  have h2 := mul_le_c h.zb h.w2
  have h3 := mul_le_c h.zc h.w3
  unfold numA denA
  rw [← e]
  omega
def lvS (l : List Spt) (f : Fce) (p : Pnt) : Sp := ⟨dn (numA l f p) (denA l f), up (numA l f p) (denA l f)⟩
theorem dn_rng {n d : Int} {z : Int} (hd : 0 < d) (h1 : -(z * d) ≤ n) (h2 : n ≤ z * d) : (-z ≤ dn n d ∧ dn n d ≤ z) ∧ (-z ≤ up n d ∧ up n d ≤ z) ∧ dn n d ≤ up n d := by
  obtain ⟨k1, k2⟩ := dn_bd (n := n) hd
  obtain ⟨j1, j2⟩ := up_bd (n := n) hd
  refine ⟨⟨?_, ?_⟩, ⟨?_, ?_⟩, ?_⟩
  · have : (-z) * d < (dn n d + 1) * d := by rw [Int.neg_mul]; omega
    have := Int.lt_of_mul_lt_mul_right this (by omega)
    omega
  · exact Int.le_of_mul_le_mul_right (by omega : dn n d * d ≤ z * d) hd
  · exact Int.le_of_mul_le_mul_right (by rw [Int.neg_mul]; omega : (-z) * d ≤ up n d * d) hd
  · have : (up n d - 1) * d < z * d := by omega
    have := Int.lt_of_mul_lt_mul_right this (by omega)
    omega
  · exact Int.le_of_mul_le_mul_right (by omega : dn n d * d ≤ up n d * d) hd
theorem OnF.lv {l : List Spt} {f : Fce} {p : Pnt} (h : OnF l f p) : (-4194304 ≤ (lvS l f p).lo ∧ (lvS l f p).lo ≤ 4194304) ∧ (-4194304 ≤ (lvS l f p).hi ∧ (lvS l f p).hi ≤ 4194304) ∧ (lvS l f p).lo ≤ (lvS l f p).hi := by
  obtain ⟨h1, h2⟩ := h.num
  exact dn_rng h.d h1 h2
/-- the level at the k-th point of a line, where there is one -/
def lvA (m : Msh) (p : Pnt) : Option Sp := (fdA m p).map fun i => lvS m.ss (fcA m.fs i) p
theorem lvA_none {m : Msh} {p : Pnt} : lvA m p = none ↔ fdA m p = none := by simp [lvA]
theorem lvA_bd {m : Msh} (hm : vM m = true) {p : Pnt} {s : Sp} (h : lvA m p = some s) : (-4194304 ≤ s.lo ∧ s.lo ≤ 4194304) ∧ (-4194304 ≤ s.hi ∧ s.hi ≤ 4194304) ∧ s.lo ≤ s.hi := by
  unfold lvA at h
  cases e : fdA m p with
  | none => rw [e] at h; cases h
  | some i =>
    rw [e] at h
    obtain ⟨hi, ho, _⟩ := fdA_some.1 e
    have ef : fcA m.fs i = m.fs[i] := by simp [fcA, hi]
    have h' : lvS m.ss (fcA m.fs i) p = s := Option.some.inj h
    rw [← h', ef]
    exact (onF_of (okF_of hm hi) ho).lv
def lvG (m : Msh) (a b : Pnt) (k : Nat) : Sp := (lvA m (ptA a b k)).getD Sp.zero
/-- the first n points of the line are on faces -/
def allL (m : Msh) (a b : Pnt) (n : Nat) : Bool := (List.range n).all fun k => (lvA m (ptA a b k)).isSome
def lvL (m : Msh) (a b : Pnt) (n : Nat) : List Sp := (List.range n).map (lvG m a b)
theorem lvL_succ (m : Msh) (a b : Pnt) (n : Nat) : lvL m a b (n + 1) = lvL m a b n ++ [lvG m a b n] := by simp [lvL, List.range_succ]
theorem allL_succ (m : Msh) (a b : Pnt) (n : Nat) : allL m a b (n + 1) = (allL m a b n && (lvA m (ptA a b n)).isSome) := by simp [allL, List.range_succ, List.all_append]
theorem allL_at {m : Msh} {a b : Pnt} {n k : Nat} (h : allL m a b n = true) (hk : k < n) : lvA m (ptA a b k) = some (lvG m a b k) := by
  have : (lvA m (ptA a b k)).isSome = true := by
    simp only [allL, List.all_eq_true, List.mem_range] at h
    exact h k hk
  unfold lvG
  cases e : lvA m (ptA a b k) with
  | none => rw [e] at this; cases this
  | some s => rfl
theorem lvG_bd {m : Msh} (hm : vM m = true) {a b : Pnt} {n k : Nat} (h : allL m a b n = true) (hk : k < n) : (-4194304 ≤ (lvG m a b k).lo ∧ (lvG m a b k).lo ≤ 4194304) ∧ (-4194304 ≤ (lvG m a b k).hi ∧ (lvG m a b k).hi ≤ 4194304) ∧ (lvG m a b k).lo ≤ (lvG m a b k).hi :=
  lvA_bd hm (allL_at h hk)
/-- the square of a distance -/
def sqD (a b : Pnt) : Int := (a.x - b.x) * (a.x - b.x) + (a.y - b.y) * (a.y - b.y)
theorem sqD_bd {a b : Pnt} (ha : a.in) (hb : b.in) : ((0 ≤ (a.x - b.x) * (a.x - b.x) ∧ (a.x - b.x) * (a.x - b.x) ≤ 1125899906842624) ∧ 0 ≤ (a.y - b.y) * (a.y - b.y) ∧ (a.y - b.y) * (a.y - b.y) ≤ 1125899906842624) ∧ 0 ≤ sqD a b ∧ sqD a b ≤ 2251799813685248 := by
  obtain ⟨⟨a1, a2⟩, a3, a4⟩ := ha
  obtain ⟨⟨b1, b2⟩, b3, b4⟩ := hb
  have m1 := mul_bd (x := a.x - b.x) (y := a.x - b.x) (n := 33554432) (by omega) (by omega)
  have m2 := mul_bd (x := a.y - b.y) (y := a.y - b.y) (n := 33554432) (by omega) (by omega)
  have sq : ∀ z : Int, 0 ≤ z * z := fun z => by
    rcases Int.lt_or_le z 0 with k | k
    · exact Int.le_of_lt (Int.mul_pos_of_neg_of_neg k k)
    · exact Int.mul_nonneg k k
  have p1 := sq (a.x - b.x)
  have p2 := sq (a.y - b.y)
  unfold sqD
  simp only [Nat.reduceMul] at m1 m2
  omega
def dsS (a b : Pnt) : Sp := ⟨isq (sqD a b), isqU (sqD a b)⟩
theorem dsS_bd {a b : Pnt} (ha : a.in) (hb : b.in) : 0 ≤ (dsS a b).lo ∧ (dsS a b).lo ≤ (dsS a b).hi ∧ (dsS a b).hi ≤ 67108864 := by
  obtain ⟨_, h0, h1⟩ := sqD_bd ha hb
  obtain ⟨k0, k1, k2⟩ := isq_bd h0
  have k3 : isq (sqD a b) < 67108863 := sq_lt k0 (by omega) (by omega)
  refine ⟨k0, ?_, ?_⟩ <;> simp only [dsS, isqU] <;> split <;> omega
/-- twice for an inner point -/
def tms (k : Nat) : Int := if k = 0 ∨ k = 16 then 1 else 2
/-- the heights of a pipe at the k-th point, down and up from its upper end -/
def pLo (u d : Int) (k : Nat) : Int := dn ((d - u) * (k : Int)) 16
def pHi (u d : Int) (k : Nat) : Int := up ((d - u) * (k : Int)) 16
theorem pip_bd {u d : Int} (hu : -4194304 ≤ u ∧ u ≤ 4194304) (hd : -4194304 ≤ d ∧ d ≤ 4194304) {k : Nat} (hk : k ≤ 16) : (-134217728 ≤ (d - u) * (k : Int) ∧ (d - u) * (k : Int) ≤ 134217728) ∧ (-8388608 ≤ pLo u d k ∧ pLo u d k ≤ 8388608) ∧ (-8388608 ≤ pHi u d k ∧ pHi u d k ≤ 8388608) ∧ pLo u d k ≤ pHi u d k := by
  obtain ⟨h1, h2⟩ := part_bd (d := d - u) hk
  have h : -134217728 ≤ (d - u) * (k : Int) ∧ (d - u) * (k : Int) ≤ 134217728 := by
    generalize (d - u) * (k : Int) = t at *
    omega
  exact ⟨h, dn_rng (z := 8388608) (by omega) (by omega) (by omega)⟩
def cvL (m : Msh) (a b : Pnt) (u d : Int) (k : Nat) : Int := tms k * max 0 ((lvG m a b k).lo - u - pHi u d k)
def cvH (m : Msh) (a b : Pnt) (u d : Int) (k : Nat) : Int := tms k * max 0 ((lvG m a b k).hi - u - pLo u d k)
def smL (m : Msh) (a b : Pnt) (u d : Int) : Nat → Int
  | 0 => 0
  | n + 1 => smL m a b u d n + cvL m a b u d n
def smH (m : Msh) (a b : Pnt) (u d : Int) : Nat → Int
  | 0 => 0
  | n + 1 => smH m a b u d n + cvH m a b u d n
theorem tms_two (k : Nat) : tms k = 1 ∨ tms k = 2 := by unfold tms; split <;> simp
theorem cv_bd {m : Msh} (hm : vM m = true) {a b : Pnt} {u d : Int} (hu : -4194304 ≤ u ∧ u ≤ 4194304) (hd : -4194304 ≤ d ∧ d ≤ 4194304) {n k : Nat} (h : allL m a b n = true) (hk : k < n) (hk' : k ≤ 16) :
    0 ≤ cvL m a b u d k ∧ cvL m a b u d k ≤ cvH m a b u d k ∧ cvH m a b u d k ≤ 33554432 := by
  obtain ⟨⟨l1, l2⟩, ⟨l3, l4⟩, l5⟩ := lvG_bd hm h hk
  obtain ⟨_, ⟨p1, p2⟩, ⟨p3, p4⟩, p5⟩ := pip_bd hu hd hk'
  unfold cvL cvH
  rcases tms_two k with e | e <;> rw [e] <;> omega
theorem sm_bd {m : Msh} (hm : vM m = true) {a b : Pnt} {u d : Int} (hu : -4194304 ≤ u ∧ u ≤ 4194304) (hd : -4194304 ≤ d ∧ d ≤ 4194304) {n : Nat} (h : allL m a b n = true) : ∀ k : Nat, k ≤ n → k ≤ 17 →
    0 ≤ smL m a b u d k ∧ smL m a b u d k ≤ smH m a b u d k ∧ smH m a b u d k ≤ 33554432 * (k : Int)
  | 0, _, _ => by simp [smL, smH]
  | k + 1, hk, hk' => by
    have i := sm_bd hm hu hd h k (by omega) (by omega)
    have c := cv_bd hm hu hd h (k := k) (by omega) (by omega)
    simp only [smL, smH]
    omega
/-- the volume of a trench -/
def trS (m : Msh) (a b : Pnt) (u d wd : Int) : Sp := ⟨dn (smL m a b u d 17 * ((dsS a b).lo * wd)) 32000, up (smH m a b u d 17 * ((dsS a b).hi * wd)) 32000⟩
def lvlB (n : Int) : Bool := decide (-4194304 ≤ n) && decide (n ≤ 4194304)
def widB (n : Int) : Bool := decide (1 ≤ n) && decide (n ≤ 10000)
def rngB (u d wd : Int) : Bool := lvlB u && lvlB d && widB wd
theorem rngB_iff {u d wd : Int} : rngB u d wd = true ↔ (-4194304 ≤ u ∧ u ≤ 4194304) ∧ (-4194304 ≤ d ∧ d ≤ 4194304) ∧ 1 ≤ wd ∧ wd ≤ 10000 := by
  simp only [rngB, lvlB, widB, Bool.and_eq_true, decide_eq_true_eq]; omega
/-- the error of a surface and a line -/
def gvE (m : Msh) (a b : Pnt) : Int := if (vM m && inP a && inP b) = true then if a = b then 25 else 0 else 1
def trE (m : Msh) (a b : Pnt) (u d wd : Int) : Int := if gvE m a b = 0 then if rngB u d wd = true then if allL m a b 17 = true then 0 else 12 else 2 else gvE m a b
def trR (m : Msh) (a b : Pnt) (u d wd : Int) : Sp := if trE m a b u d wd = 0 then trS m a b u d wd else Sp.zero
theorem trE_ok {m : Msh} {a b : Pnt} {u d wd : Int} (h : trE m a b u d wd = 0) : vM m = true ∧ a.in ∧ b.in ∧ a ≠ b ∧ rngB u d wd = true ∧ allL m a b 17 = true := by
  unfold trE gvE at h
  by_cases h1 : (vM m && inP a && inP b) = true
  · rw [if_pos h1] at h
    by_cases h2 : a = b
    · simp [h2] at h
    · simp only [h2, if_false, if_true] at h
      by_cases h3 : rngB u d wd = true
      · rw [if_pos h3] at h
        by_cases h4 : allL m a b 17 = true
        · simp only [Bool.and_eq_true] at h1
          exact ⟨h1.1.1, inP_iff.1 h1.1.2, inP_iff.1 h1.2, h2, h3, h4⟩
        · simp [h4] at h
      · simp [h3] at h
  · simp [h1] at h
end Go.Proofs.YtbmocghfpcfmhaaDoor

namespace Go.Proofs.YtbmocghfpcfmhaaDoor

theorem dn_mono {n m d : Int} (hd : 0 < d) (h : n ≤ m) : dn n d ≤ dn m d := by
  obtain ⟨k1, _⟩ := dn_bd (n := n) hd
  obtain ⟨_, k2⟩ := dn_bd (n := m) hd
  have : dn n d * d < (dn m d + 1) * d := by omega
  have := Int.lt_of_mul_lt_mul_right this (by omega)
  omega
theorem up_mono {n m d : Int} (hd : 0 < d) (h : n ≤ m) : up n d ≤ up m d := by
  have := dn_mono (n := -m) (m := -n) hd (by omega)
  unfold up; omega
theorem dn_nn {n d : Int} (hd : 0 < d) (h : 0 ≤ n) : 0 ≤ dn n d := by
  unfold dn; rw [if_neg (by omega)]; exact Int.ediv_nonneg h (by omega)
theorem up_nn {n d : Int} (hd : 0 < d) (h : 0 ≤ n) : 0 ≤ up n d := by
  obtain ⟨k1, _⟩ := up_bd (n := n) hd
  rcases Int.lt_or_le (up n d) 0 with k | k
  · have : up n d * d ≤ (-1) * d := Int.mul_le_mul_of_nonneg_right (by omega) (by omega)
    omega
  · exact k
theorem dn_up {n d : Int} (hd : 0 < d) : dn n d ≤ up n d := by
  obtain ⟨k1, _⟩ := dn_bd (n := n) hd
  obtain ⟨j1, _⟩ := up_bd (n := n) hd
  exact Int.le_of_mul_le_mul_right (by omega : dn n d * d ≤ up n d * d) hd
theorem dn_den {n d e : Int} (hd : 0 < d) (he : d ≤ e) (h : 0 ≤ n) : dn n e ≤ dn n d := by
  obtain ⟨k1, _⟩ := dn_bd (n := n) (d := e) (by omega)
  obtain ⟨_, k2⟩ := dn_bd (n := n) hd
  have h0 := dn_nn (n := n) (d := e) (by omega) h
  have : dn n e * d ≤ dn n e * e := Int.mul_le_mul_of_nonneg_left he h0
  have : dn n e * d < (dn n d + 1) * d := by omega
  have := Int.lt_of_mul_lt_mul_right this (by omega)
  omega
theorem up_den {n d e : Int} (hd : 0 < d) (he : d ≤ e) (h : 0 ≤ n) : up n e ≤ up n d := by
  obtain ⟨_, k1⟩ := up_bd (n := n) (d := e) (by omega)
  obtain ⟨k2, _⟩ := up_bd (n := n) hd
  have h0 := up_nn (n := n) hd h
  have : up n d * d ≤ up n d * e := Int.mul_le_mul_of_nonneg_left he h0
  have : (up n e - 1) * e < up n d * e := by omega
  have := Int.lt_of_mul_lt_mul_right this (by omega)
  omega
/-- so many years of a rate n / d -/
def prL (n d : Int) : Nat → Int → Int
  | 0, c => c
  | y + 1, c => dn (prL n d y c * d) (d + n)
def prU (n d : Int) : Nat → Int → Int
  | 0, c => c
  | y + 1, c => up (prU n d y c * d) (d + n)
theorem prL_add (n d : Int) (a c) : ∀ b, prL n d (a + b) c = prL n d b (prL n d a c)
  | 0 => rfl
  | b + 1 => by rw [← Nat.add_assoc]; simp only [prL]; rw [prL_add n d a c b]
theorem prU_add (n d : Int) (a c) : ∀ b, prU n d (a + b) c = prU n d b (prU n d a c)
  | 0 => rfl
  | b + 1 => by rw [← Nat.add_assoc]; simp only [prU]; rw [prU_add n d a c b]
theorem dn_step {n d x : Int} (hn : 0 ≤ n) (hd : 1 ≤ d) (hx : 0 ≤ x) : 0 ≤ dn (x * d) (d + n) ∧ dn (x * d) (d + n) ≤ x := by
  have h0 : 0 ≤ x * d := Int.mul_nonneg hx (by omega)
  refine ⟨dn_nn (by omega) h0, ?_⟩
  obtain ⟨k1, _⟩ := dn_bd (n := x * d) (d := d + n) (by omega)
  have : x * d ≤ x * (d + n) := Int.mul_le_mul_of_nonneg_left (by omega) hx
  exact Int.le_of_mul_le_mul_right (by omega : dn (x * d) (d + n) * (d + n) ≤ x * (d + n)) (by omega)
theorem up_step {n d x : Int} (hn : 0 ≤ n) (hd : 1 ≤ d) (hx : 0 ≤ x) : 0 ≤ up (x * d) (d + n) ∧ up (x * d) (d + n) ≤ x := by
  have h0 : 0 ≤ x * d := Int.mul_nonneg hx (by omega)
  refine ⟨up_nn (by omega) h0, ?_⟩
  obtain ⟨_, k1⟩ := up_bd (n := x * d) (d := d + n) (by omega)
  have : x * d ≤ x * (d + n) := Int.mul_le_mul_of_nonneg_left (by omega) hx
  have : (up (x * d) (d + n) - 1) * (d + n) < x * (d + n) := by omega
  have := Int.lt_of_mul_lt_mul_right this (by omega)
  omega
theorem pr_bd {n d c : Int} (hn : 0 ≤ n) (hd : 1 ≤ d) (hc : 0 ≤ c) : ∀ y, 0 ≤ prL n d y c ∧ prL n d y c ≤ prU n d y c ∧ prU n d y c ≤ c
  | 0 => by simp [prL, prU]; omega
  | y + 1 => by
    obtain ⟨h1, h2, h3⟩ := pr_bd hn hd hc y
    simp only [prL, prU]
    have a := dn_step hn hd h1
    have b := up_step hn hd (x := prU n d y c) (by omega)
    have m : dn (prL n d y c * d) (d + n) ≤ dn (prU n d y c * d) (d + n) := dn_mono (by omega) (Int.mul_le_mul_of_nonneg_right h2 (by omega))
    have k := dn_up (n := prU n d y c * d) (d := d + n) (by omega)
    omega
theorem pr_later {n d c : Int} (hn : 0 ≤ n) (hd : 1 ≤ d) (hc : 0 ≤ c) (a : Nat) : ∀ b, prL n d (a + b) c ≤ prL n d a c ∧ prU n d (a + b) c ≤ prU n d a c
  | 0 => ⟨Int.le_refl _, Int.le_refl _⟩
  | b + 1 => by
    obtain ⟨h1, h2⟩ := pr_later hn hd hc a b
    obtain ⟨k1, k2, _⟩ := pr_bd hn hd hc (a + b)
    rw [← Nat.add_assoc]
    simp only [prL, prU]
    have a1 := dn_step hn hd k1
    have b1 := up_step hn hd (x := prU n d (a + b) c) (by omega)
    omega
theorem pr_rate {n m d c : Int} (hn : 0 ≤ n) (hm : n ≤ m) (hd : 1 ≤ d) (hc : 0 ≤ c) : ∀ y, prL m d y c ≤ prL n d y c ∧ prU m d y c ≤ prU n d y c
  | 0 => ⟨Int.le_refl _, Int.le_refl _⟩
  | y + 1 => by
    obtain ⟨h1, h2⟩ := pr_rate hn hm hd hc y
    obtain ⟨k1, k2, _⟩ := pr_bd (n := m) (by omega) hd hc y
    obtain ⟨j1, j2, _⟩ := pr_bd hn hd hc y
    simp only [prL, prU]
    have x1 := dn_den (n := prL m d y c * d) (d := d + n) (e := d + m) (by omega) (by omega) (Int.mul_nonneg k1 (by omega))
    have x2 : dn (prL m d y c * d) (d + n) ≤ dn (prL n d y c * d) (d + n) := dn_mono (by omega) (Int.mul_le_mul_of_nonneg_right h1 (by omega))
    have y1 := up_den (n := prU m d y c * d) (d := d + n) (e := d + m) (by omega) (by omega) (Int.mul_nonneg (by omega) (by omega))
    have y2 : up (prU m d y c * d) (d + n) ≤ up (prU n d y c * d) (d + n) := up_mono (by omega) (Int.mul_le_mul_of_nonneg_right h2 (by omega))
    omega
theorem pr_cost {n d c e : Int} (hn : 0 ≤ n) (hd : 1 ≤ d) (hc : 0 ≤ c) (he : c ≤ e) : ∀ y, prL n d y c ≤ prL n d y e ∧ prU n d y c ≤ prU n d y e
  | 0 => ⟨he, he⟩
  | y + 1 => by
    obtain ⟨h1, h2⟩ := pr_cost hn hd hc he y
    simp only [prL, prU]
    exact ⟨dn_mono (by omega) (Int.mul_le_mul_of_nonneg_right h1 (by omega)), up_mono (by omega) (Int.mul_le_mul_of_nonneg_right h2 (by omega))⟩
theorem pr_two {n d c : Int} (hn : 0 ≤ n) (hd : 1 ≤ d) : prL n d 2 c * ((d + n) * (d + n)) ≤ c * d * d ∧ c * d * d ≤ prU n d 2 c * ((d + n) * (d + n)) := by
  have hs : 0 < d + n := by omega
  obtain ⟨a1, _⟩ := dn_bd (n := c * d) hs
  obtain ⟨a2, _⟩ := dn_bd (n := dn (c * d) (d + n) * d) hs
  obtain ⟨b1, _⟩ := up_bd (n := c * d) hs
  obtain ⟨b2, _⟩ := up_bd (n := up (c * d) (d + n) * d) hs
  simp only [prL, prU]
  generalize hx : dn (c * d) (d + n) = x at *
  generalize hy : up (c * d) (d + n) = y at *
  generalize dn (x * d) (d + n) = u at *
  generalize up (y * d) (d + n) = v at *
  generalize d + n = s at *
  have e1 : u * s * s ≤ x * d * s := Int.mul_le_mul_of_nonneg_right a2 (by omega)
  have e2 : x * s * d ≤ c * d * d := Int.mul_le_mul_of_nonneg_right a1 (by omega)
  have e3 : y * d * s ≤ v * s * s := Int.mul_le_mul_of_nonneg_right b2 (by omega)
  have e4 : c * d * d ≤ y * s * d := Int.mul_le_mul_of_nonneg_right b1 (by omega)
  have r1 : u * (s * s) = u * s * s := (Int.mul_assoc ..).symm
  have r2 : v * (s * s) = v * s * s := (Int.mul_assoc ..).symm
  have r3 : x * d * s = x * s * d := by rw [Int.mul_assoc, Int.mul_comm d s, ← Int.mul_assoc]
  have r4 : y * d * s = y * s * d := by rw [Int.mul_assoc, Int.mul_comm d s, ← Int.mul_assoc]
  omega
/-- a present value, or the error -/
def prB (c n d y : Int) : Bool := decide (0 ≤ c) && decide (c ≤ 1125899906842624) && (decide (0 ≤ n) && decide (n ≤ 10000)) && (decide (1 ≤ d) && decide (d ≤ 10000)) && (decide (0 ≤ y) && decide (y ≤ 200))
def prE (c n d y : Int) : Int := if prB c n d y = true then 0 else 2
def prS (c n d y : Int) : Sp := if prB c n d y = true then ⟨prL n d y.toNat c, prU n d y.toNat c⟩ else Sp.zero
theorem prB_iff {c n d y : Int} : prB c n d y = true ↔ (0 ≤ c ∧ c ≤ 1125899906842624) ∧ (0 ≤ n ∧ n ≤ 10000) ∧ (1 ≤ d ∧ d ≤ 10000) ∧ 0 ≤ y ∧ y ≤ 200 := by
  simp only [prB, Bool.and_eq_true, decide_eq_true_eq]; omega
/-- a pipe that lies lower lies lower everywhere -/
theorem pip_mono {u d u' d' : Int} (hu : u' ≤ u) (hd : d' ≤ d) {k : Nat} (hk : k ≤ 16) : u' + pHi u' d' k ≤ u + pHi u d k ∧ u' + pLo u' d' k ≤ u + pLo u d k := by
  have m1 : u' * (16 - (k : Int)) ≤ u * (16 - (k : Int)) := Int.mul_le_mul_of_nonneg_right hu (by omega)
  have m2 : d' * (k : Int) ≤ d * (k : Int) := Int.mul_le_mul_of_nonneg_right hd (by omega)
  have e1 : (d - u) * (k : Int) = d * (k : Int) + u * (16 - (k : Int)) - 16 * u := by grind
  have e2 : (d' - u') * (k : Int) = d' * (k : Int) + u' * (16 - (k : Int)) - 16 * u' := by grind
  unfold pHi pLo up dn
  rw [e1, e2]
  have hxy : d' * (k : Int) + u' * (16 - (k : Int)) ≤ d * (k : Int) + u * (16 - (k : Int)) := by omega
  generalize d * (k : Int) + u * (16 - (k : Int)) = x at *
  generalize d' * (k : Int) + u' * (16 - (k : Int)) = y at *
  simp only [show ¬ ((16 : Int) < 0) by omega, if_false]
  omega
theorem cv_mono {m : Msh} {a b : Pnt} {u d u' d' : Int} (hu : u' ≤ u) (hd : d' ≤ d) {k : Nat} (hk : k ≤ 16) : cvL m a b u d k ≤ cvL m a b u' d' k ∧ cvH m a b u d k ≤ cvH m a b u' d' k := by
  obtain ⟨h1, h2⟩ := pip_mono hu hd hk
  unfold cvL cvH
  rcases tms_two k with e | e <;> rw [e] <;> omega
theorem sm_mono {m : Msh} {a b : Pnt} {u d u' d' : Int} (hu : u' ≤ u) (hd : d' ≤ d) : ∀ k : Nat, k ≤ 17 → smL m a b u d k ≤ smL m a b u' d' k ∧ smH m a b u d k ≤ smH m a b u' d' k
  | 0, _ => ⟨Int.le_refl _, Int.le_refl _⟩
  | k + 1, hk => by
    have i := sm_mono (m := m) (a := a) (b := b) hu hd k (by omega)
    have c := cv_mono (m := m) (a := a) (b := b) hu hd (k := k) (by omega)
    simp only [smL, smH]
    omega
theorem trS_lo (m : Msh) (a b : Pnt) (u d wd : Int) : (trS m a b u d wd).lo = dn (smL m a b u d 17 * ((dsS a b).lo * wd)) 32000 := rfl
theorem trS_hi (m : Msh) (a b : Pnt) (u d wd : Int) : (trS m a b u d wd).hi = up (smH m a b u d 17 * ((dsS a b).hi * wd)) 32000 := rfl
theorem trS_ok {m : Msh} (hm : vM m = true) {a b : Pnt} (ha : a.in) (hb : b.in) {u d wd : Int} (hr : rngB u d wd = true) (hl : allL m a b 17 = true) : 0 ≤ (trS m a b u d wd).lo ∧ (trS m a b u d wd).lo ≤ (trS m a b u d wd).hi := by
  obtain ⟨h1, h2, h3, h4⟩ := rngB_iff.1 hr
  obtain ⟨s1, s2, _⟩ := sm_bd hm h1 h2 hl 17 (by omega) (by omega)
  obtain ⟨d1, d2, _⟩ := dsS_bd ha hb
  have p1 : 0 ≤ (dsS a b).lo * wd := Int.mul_nonneg d1 (by omega)
  have p2 : (dsS a b).lo * wd ≤ (dsS a b).hi * wd := Int.mul_le_mul_of_nonneg_right d2 (by omega)
  have q1 : 0 ≤ smL m a b u d 17 * ((dsS a b).lo * wd) := Int.mul_nonneg s1 p1
  have q2 : smL m a b u d 17 * ((dsS a b).lo * wd) ≤ smH m a b u d 17 * ((dsS a b).hi * wd) := Int.mul_le_mul s2 p2 p1 (by omega)
  rw [trS_lo, trS_hi]
  refine ⟨dn_nn (by omega) q1, ?_⟩
  have := dn_mono (d := 32000) (by omega) q2
  have := dn_up (n := smH m a b u d 17 * ((dsS a b).hi * wd)) (d := 32000) (by omega)
  omega
theorem trS_deep {m : Msh} (hm : vM m = true) {a b : Pnt} (ha : a.in) (hb : b.in) {u d wd u' d' wd' : Int} (hr : rngB u d wd = true) (hl : allL m a b 17 = true) (hu : u' ≤ u) (hd : d' ≤ d) (hw : wd ≤ wd') :
    (trS m a b u d wd).lo ≤ (trS m a b u' d' wd').lo ∧ (trS m a b u d wd).hi ≤ (trS m a b u' d' wd').hi := by
  obtain ⟨h1, h2, h3, h4⟩ := rngB_iff.1 hr
  obtain ⟨s1, s2, _⟩ := sm_bd hm h1 h2 hl 17 (by omega) (by omega)
  obtain ⟨m1, m2⟩ := sm_mono (m := m) (a := a) (b := b) hu hd 17 (by omega)
  obtain ⟨d1, d2, _⟩ := dsS_bd ha hb
  have p1 : (dsS a b).lo * wd ≤ (dsS a b).lo * wd' := Int.mul_le_mul_of_nonneg_left hw d1
  have p2 : (dsS a b).hi * wd ≤ (dsS a b).hi * wd' := Int.mul_le_mul_of_nonneg_left hw (by omega)
  have z1 : 0 ≤ (dsS a b).lo * wd := Int.mul_nonneg d1 (by omega)
  have z2 : 0 ≤ (dsS a b).hi * wd := Int.mul_nonneg (by omega) (by omega)
  simp only [trS_lo, trS_hi]
  exact ⟨dn_mono (by omega) (Int.mul_le_mul m1 p1 z1 (by omega)), up_mono (by omega) (Int.mul_le_mul m2 p2 z2 (by omega))⟩
theorem sm_none {m : Msh} (hm : vM m = true) {a b : Pnt} {n : Nat} (h : allL m a b n = true) : ∀ k : Nat, k ≤ n → k ≤ 17 → smL m a b 4194304 4194304 k = 0 ∧ smH m a b 4194304 4194304 k = 0
  | 0, _, _ => ⟨rfl, rfl⟩
  | k + 1, hk, hk' => by
    obtain ⟨i1, i2⟩ := sm_none hm h k (by omega) (by omega)
    obtain ⟨⟨l1, l2⟩, ⟨l3, l4⟩, l5⟩ := lvG_bd hm h (k := k) (by omega)
    have e1 : pHi 4194304 4194304 k = 0 := by simp [pHi, up, dn]
    have e2 : pLo 4194304 4194304 k = 0 := by simp [pLo, dn]
    simp only [smL, smH, cvL, cvH, i1, i2, e1, e2]
    rcases tms_two k with e | e <;> rw [e] <;> omega
theorem trS_none {m : Msh} (hm : vM m = true) {a b : Pnt} (h : allL m a b 17 = true) (wd : Int) : trS m a b 4194304 4194304 wd = Sp.zero := by
  obtain ⟨i1, i2⟩ := sm_none hm h 17 (by omega) (by omega)
  simp [trS, i1, i2, Sp.zero, up, dn]
end Go.Proofs.YtbmocghfpcfmhaaDoor

namespace Go.Proofs.YtbmocghfpcfmhaaDoor

/-- a wide integer as the program has it: its magnitude in two words, and whether it is negative -/
abbrev WN (v : Int) : Value := .agg #[.int .u64 ((v.natAbs / 18446744073709551616 : Nat) : Int), .int .u64 ((v.natAbs % 18446744073709551616 : Nat) : Int), .bool (decide (v < 0))]
def i64B (x : Int) : Bool := decide (-9223372036854775808 ≤ x ∧ x ≤ 9223372036854775807)
theorem i64B_iff {x : Int} : i64B x = true ↔ -9223372036854775808 ≤ x ∧ x ≤ 9223372036854775807 := by simp [i64B]
/-- a quotient rounded down or up -/
def quo (v b : Int) (u : Bool) : Int := if u = true then up v b else dn v b
def i64E (x : Int) : Int := if i64B x = true then 0 else 5
def i64V (x : Int) : Int := if i64B x = true then x else 0
theorem i64_yes {x : Int} (h : i64B x = true) : i64E x = 0 ∧ i64V x = x := by simp [i64E, i64V, h]
theorem i64_no {x : Int} (h : i64B x = false) : i64E x = 5 ∧ i64V x = 0 := by simp [i64E, i64V, h]
/-- what a magnitude with a sign is as an int -/
def sgn (n : Int) (b : Bool) : Int := if b = true then -n else n
def magn (v b : Int) (u : Bool) : Nat := v.natAbs / b.natAbs + (if v.natAbs % b.natAbs ≠ 0 ∧ ((decide (v < 0) != decide (b < 0)) != u) = true then 1 else 0)
theorem sgn_form (v : Int) : ∃ s : Int, (s = 1 ∨ s = -1) ∧ v = s * (v.natAbs : Int) ∧ (v < 0 ↔ s = -1) := by
  by_cases h : v < 0
  · exact ⟨-1, .inr rfl, by omega, by simp [h]⟩
  · exact ⟨1, .inl rfl, by omega, by simp [h]⟩
theorem quo_magn {v b : Int} (hb : b ≠ 0) (u : Bool) : quo v b u = if (decide (v < 0) != decide (b < 0)) = true then -(magn v b u : Int) else (magn v b u : Int) := by
  obtain ⟨s, hs, ev, hv⟩ := sgn_form v
  obtain ⟨t, ht, eb, hb'⟩ := sgn_form b
  have hd : 0 < b.natAbs := by omega
  have d1 := dn_mag (m := v.natAbs) hd s hs t ht
  have d2 := dn_mag (m := v.natAbs) hd (-s) (by omega) t ht
  rw [← ev, ← eb] at d1
  rw [← eb, show -s * (v.natAbs : Int) = -v by rw [Int.neg_mul, ← ev]] at d2
  unfold quo magn up
  rw [d1, d2]
  have e1 : decide (v < 0) = decide (s = -1) := decide_eq_decide.2 hv
  have e2 : decide (b < 0) = decide (t = -1) := decide_eq_decide.2 hb'
  rw [e1, e2]
  generalize v.natAbs / b.natAbs = q
  generalize v.natAbs % b.natAbs = r
  by_cases hr : r = 0
  · subst hr
    rcases hs with rfl | rfl <;> rcases ht with rfl | rfl <;> cases u <;> simp
  · rcases hs with rfl | rfl <;> rcases ht with rfl | rfl <;> cases u <;> simp [hr]
theorem mul_neg_iff (a b : Int) : decide (a * b < 0) = ((decide (a < 0) != decide (b < 0)) && decide (a * b ≠ 0)) := by
  rcases Int.lt_trichotomy a 0 with ha | ha | ha
  · rcases Int.lt_trichotomy b 0 with hb | hb | hb
    · have := Int.mul_pos_of_neg_of_neg ha hb
      simp [ha, hb]; omega
    · subst hb; simp
    · have := Int.mul_neg_of_neg_of_pos ha hb
      have h2 : ¬ b < 0 := by omega
      have h3 : a * b ≠ 0 := by omega
      simp [ha, h2, h3, this]
  · subst ha; simp
  · rcases Int.lt_trichotomy b 0 with hb | hb | hb
    · have := Int.mul_neg_of_pos_of_neg ha hb
      have h2 : ¬ a < 0 := by omega
      have h3 : a * b ≠ 0 := by omega
      simp [hb, h2, h3, this]
    · subst hb; simp
    · have := Int.mul_pos ha hb
      have h2 : ¬ a < 0 := by omega
      have h3 : ¬ b < 0 := by omega
      simp [h2, h3]; omega
theorem split_zero (n : Nat) : (((n / 18446744073709551616 : Nat) : Int) != 0 || ((n % 18446744073709551616 : Nat) : Int) != 0) = decide (n ≠ 0) := by
  rw [Bool.eq_iff_iff]; simp; omega
theorem wn_mul (a b : Int) : WN (a * b) = .agg #[.int .u64 ((a.natAbs * b.natAbs / 18446744073709551616 : Nat) : Int), .int .u64 ((a.natAbs * b.natAbs % 18446744073709551616 : Nat) : Int), .bool ((decide (a < 0) != decide (b < 0)) && (((a.natAbs * b.natAbs / 18446744073709551616 : Nat) : Int) != 0 || ((a.natAbs * b.natAbs % 18446744073709551616 : Nat) : Int) != 0))] := by
  have hN : (a * b).natAbs = a.natAbs * b.natAbs := Int.natAbs_mul a b
  rw [split_zero (a.natAbs * b.natAbs)]
  show Value.agg _ = _
  rw [mul_neg_iff a b, hN]
  have e : decide (a * b ≠ 0) = decide (a.natAbs * b.natAbs ≠ 0) := decide_eq_decide.2 (by omega)
  rw [e]
/-- n num / den, rounded down and up -/
def scE (n m d : Int) : Int := if d = 0 then 16 else if i64B (dn (n * m) d) = true ∧ i64B (up (n * m) d) = true then 0 else 5
def scLo (n m d : Int) : Int := if d ≠ 0 ∧ i64B (dn (n * m) d) = true ∧ i64B (up (n * m) d) = true then dn (n * m) d else 0
def scHi (n m d : Int) : Int := if d ≠ 0 ∧ i64B (dn (n * m) d) = true ∧ i64B (up (n * m) d) = true then up (n * m) d else 0
end Go.Proofs.YtbmocghfpcfmhaaDoor
