/- Parts of one proof, joined: Small words for memory, kept for all texts of this seat: a slice that reads as a list, a block known whole, what is appended; structs by value; the last step of a row. Decimal numerals: what Itoa prints is read again by Atoi and by digit loops; where a separator stands; plain facts. What a walk owns: blocks of its own that are known whole, carried from world to world; nothing below them is turned. Texts: values of lists of bytes; the table of powers of ten is kept. Texts: strconv.Itoa and strconv.Atoi at lists of bytes, where the variables that they read are as laid; nothing that was there is turned. Decimal integers without sign of at most nine digits (chapter 15): what the program and the reference read; plain facts. Parts of a text between bytes of a kind: what strings.Split returns at a separator of one byte, and what the references' loops gather; plain facts. -/
import Derived.Test.YtkjndkeboeieoaaGreatDoorRows
import Derived.Handy
import Derived.WalkSpells
import Derived.WalkLawsBesides
import Derived.Below
import Derived.Laws.OwnMore
import Derived.Deep.AppendLies
import Derived.Deep.Draws
import Derived.Laws.Rows
import Derived.Maps.AppendAt
import Derived.RegionTactic
import Derived.OwnWalk
import Derived.Lib.SmallJoins
import Derived.Deep.Slices
import Derived.Deep.Fields
import Derived.ChangeSame
import Derived.Lib.Hide
import Derived.PlainAid
import Derived.Lib.AtoiAllCases
import Derived.Lib.ItoaNum
import Derived.Lib.ItoaLen
import Derived.Lib.IndexMore
import Derived.Test.YtkjndkeboeieoaaGreatDoorShelf3
import Derived.Lib.AppendIntMem
import Derived.Shelf.Vars
import Derived.Lib.AtoiErrMem
import Derived.Stop.LaidErr
import Derived.Lib.Split
import Derived.Lib.CountLaws
namespace Go.Proofs.YtkjndkeboeieoaaGreatDoor
open Go.RowKit
theorem block_of_add (a : Addr) (n : Nat) : (a.add n).block = a.block := by unfold Addr.add; split <;> rfl
theorem add_of_add (a : Addr) (i j : Nat) : (a.add i).add j = a.add (i + j) := by
  unfold Addr.add
  by_cases hi : i = 0 <;> by_cases hj : j = 0 <;> simp [hi, hj, Nat.add_assoc]

def Reads (w : World) (B size : Nat) (A : Option Addr) (n : Nat) (xs : List Value) : Prop :=
  xs.length = n * size ∧ (0 < n → ∃ ad, A = some ad ∧ ad.block < B ∧ ∀ j u, xs[j]? = some u → w.cell? (ad.add j) = some u)

section
variable {w w' : World} {B B' size n : Nat} {A : Option Addr} {xs : List Value}
theorem Reads.none_ : Reads w B size A 0 [] := ⟨by simp, fun h => absurd h (by omega)⟩
theorem Reads.at_ {k : Nat} (h : Reads w B 1 A n xs) (hk : k < n) : ∃ ad u, A = some ad ∧ ad.block < B ∧ xs[k]? = some u ∧ w.cell? (ad.add k) = some u := by
  obtain ⟨ad, e, hb, hc⟩ := h.2 (by omega)
  have hl : k < xs.length := by have := h.1; omega
  exact ⟨ad, xs[k], e, hb, List.getElem?_eq_getElem hl, hc k _ (List.getElem?_eq_getElem hl)⟩
theorem Reads.keep (h : Reads w B size A n xs) (hk : ∀ p : Addr, p.block < B → w'.cell? p = w.cell? p) : Reads w' B size A n xs :=
  ⟨h.1, fun hn => by
    obtain ⟨ad, e, hb, hc⟩ := h.2 hn
    exact ⟨ad, e, hb, fun j u hu => (hk _ (by rw [block_of_add]; exact hb)).trans (hc j u hu)⟩⟩
theorem Reads.more (h : Reads w B size A n xs) (hB : B ≤ B') : Reads w B' size A n xs :=
  ⟨h.1, fun hn => by
    obtain ⟨ad, e, hb, hc⟩ := h.2 hn
    exact ⟨ad, e, by omega, hc⟩⟩
theorem Reads.below (h : Reads w B size A n xs) (hb : Below B w w') : Reads w' B size A n xs := h.keep fun _ hp => hb.cell hp
theorem Reads.drew (h : Reads w B size A n xs) : Reads w.drew B size A n xs := h
theorem Reads.drewN (h : Reads w B size A n xs) (k : Nat) : Reads (w.drewN k) B size A n xs := h
theorem Reads.alloc (h : Reads w B size A n xs) (hB : B ≤ w.heap.size) (o : Obj) : Reads (w.alloc o) B size A n xs := h.keep fun p hp => World.cell?_alloc_lt w o p (by omega)
theorem Reads.setCell (h : Reads w B size A n xs) {p : Addr} (hB : B ≤ p.block) (u : Value) : Reads (w.setCell p u) B size A n xs :=
  h.keep fun q hq => World.cell?_setCell_other w p q u (fun e => by subst e; omega)
theorem Reads.grown (h : Reads w B size A n xs) {row : Option Nat} (hg : w.grownBy w' row) (hB : B ≤ w.heap.size) (hr : ∀ g, row = some g → B ≤ g) : Reads w' B size A n xs :=
  h.keep fun p hp => World.cell?_of_block (hg.block p.block (by omega) (fun e => by have := hr _ e.symm; omega))
theorem Reads.cut (h : Reads w B size A n xs) {k cap : Nat} (hk : k ≤ n) (hc : n ≤ cap) :
    Reads w B size (if cap = k then A else A.map (·.add (k * size))) (n - k) (xs.drop (k * size)) := by
  refine ⟨by rw [List.length_drop, h.1, Nat.sub_mul], fun hn => ?_⟩
  obtain ⟨ad, rfl, hb, hcell⟩ := h.2 (by omega)
  rw [if_neg (by omega)]
  refine ⟨ad.add (k * size), rfl, by rw [block_of_add]; exact hb, fun j u hu => ?_⟩
  rw [add_of_add]
  exact hcell _ u (by rw [← hu, List.getElem?_drop])
theorem Reads.of_own {base : Nat} {e : TypeId} {c : Nat} (h : w.ownsRow base e size (.slice A n c) n xs) : Reads w w.heap.size size A n xs := by
  refine ⟨h.1, fun hn => ?_⟩
  obtain ⟨g, cap, hv, _, hlt⟩ := h.form hn
  have hA : A = some ⟨g, 0, none⟩ := by injection hv
  subst hA
  exact ⟨_, rfl, hlt, h.cells (g := g) rfl⟩
end

def Blk (w : World) (g : Nat) (t : TypeId) (cs : Array Value) : Prop := w.heap[g]? = some (.cells cs t (0, 0))

section
variable {w w' : World} {g : Nat} {t : TypeId} {cs : Array Value}
theorem Blk.lt (h : Blk w g t cs) : g < w.heap.size := by
  rcases Nat.lt_or_ge g w.heap.size with hlt | hge
  · exact hlt
  · unfold Blk at h; rw [Array.getElem?_eq_none hge] at h; cases h
theorem Blk.cell (h : Blk w g t cs) (i : Nat) : w.cell? ⟨g, i, none⟩ = cs[i]? := cell_of_row w g i cs t (0, 0) h
theorem Blk.frozen (h : Blk w g t cs) (i : Nat) : w.frozen? ⟨g, i, none⟩ = false := by
  unfold Blk at h
  simp [World.frozen?, h]
theorem Blk.new (w : World) (t : TypeId) (cs : Array Value) : Blk (w.alloc (.cells cs t)) w.heap.size t cs := heap_alloc_new w _
theorem Blk.drew (h : Blk w g t cs) : Blk w.drew g t cs := h
theorem Blk.drewN (h : Blk w g t cs) (n : Nat) : Blk (w.drewN n) g t cs := h
theorem Blk.alloc (h : Blk w g t cs) (o : Obj) : Blk (w.alloc o) g t cs := (Below.heap_alloc w o g h.lt).trans h
theorem Blk.set_ (h : Blk w g t cs) (i : Nat) (u : Value) : Blk (w.setCell ⟨g, i, none⟩ u) g t (cs.setIfInBounds i u) := by
  unfold Blk at h ⊢
  simp [World.setCell, Array.getElem?_modify, h]
theorem Blk.far (h : Blk w g t cs) {p : Addr} (hp : g ≠ p.block) (u : Value) : Blk (w.setCell p u) g t cs := (Below.heap_setCell w p u g hp).trans h
theorem Blk.below {B : Nat} (h : Blk w g t cs) (hb : Below B w w') (hg : g < B) : Blk w' g t cs := (hb.block g hg).trans h
theorem Blk.grown {row : Option Nat} (h : Blk w g t cs) (hb : w.grownBy w' row) (hg : some g ≠ row) : Blk w' g t cs := (hb.block g h.lt hg).trans h
theorem Blk.ne_ {g' : Nat} {t' : TypeId} {cs' : Array Value} (h : Blk w g t cs) (h' : Blk w g' t' cs') (hne : t ≠ t') : g ≠ g' := by
  rintro rfl
  unfold Blk at h h'
  rw [h] at h'
  injection h' with h'
  injection h' with _ ht
  exact hne ht
theorem own_blk_ne {base : Nat} {e : TypeId} {size n : Nat} {v : Value} {xs : List Value} (h : w.ownsRow base e size v n xs) (hg : Blk w g t cs) (hne : e ≠ t) : v.ownBlock ≠ some g := by
  rcases h.2 with ⟨rfl, _⟩ | ⟨g', cap, cur, rfl, _, hh, _⟩
  · simp [Value.ownBlock]
  · intro he
    have : g' = g := by simpa [Value.ownBlock] using he
    subst this
    exact Blk.ne_ (t := e) hh hg hne rfl
end

section
variable {P : Program} (w : World)

theorem run_append_of_nil (base : Nat) (t ty e : TypeId) (i : TypeInfo) (size : Nat) (ht : P.underlying t = some (.slice e)) (hi : P.info? e = some i)
    (v : Value) (n : Nat) (xs : List Value) (hown : w.ownsRow base e size v n xs) (c : Nat) : (Builtin.append_ #[t, t] ty #[v, .slice none 0 c]).run P w = .ok v w := by
  rcases hown.2 with ⟨rfl, rfl⟩ | ⟨g, cap, cur, rfl, _, _, hnc, _⟩
  · simp [Builtin.append_, run_underlying ht, sizeOf, typeInfo, hi, Builtin.lenOf, Builtin.firstCells]
  · simp [Builtin.append_, run_underlying ht, sizeOf, typeInfo, hi, Builtin.lenOf, Builtin.firstCells, hnc, storeCells]

theorem run_append_any (base : Nat) (t ty e : TypeId) (i : TypeInfo) (z : Value) (size bytes : Nat) (ht : P.underlying t = some (.slice e)) (hi : P.info? e = some i) (hz : i.zero = some z)
    (hsize : i.size = size) (hby : i.bytes = bytes) (hzs : z.cells.size = size) (hsz : 0 < size)
    (v : Value) (n : Nat) (xs : List Value) (hown : w.ownsRow base e size v n xs)
    (B : Nat) (A : Option Addr) (m c : Nat) (news : List Value) (hr : Reads w B size A m news) (h1 : ∀ u ∈ news, u.oneCell' = true)
    (h63 : n + m ≤ maxLen) (hbytes : (n + m) * bytes ≤ 140737488355328) (hbase : base ≤ w.heap.size) :
    ∃ v' w', (Builtin.append_ #[t, t] ty #[v, .slice A m c]).run P w = .ok v' w' ∧ w'.ownsRow base e size v' (n + m) (xs ++ news) ∧ w.grownBy w' v.ownBlock ∧
      (v'.ownBlock = v.ownBlock ∨ v'.ownBlock = some w.heap.size) := by
  rcases A with _ | ad
  · have hm : m = 0 := by
      rcases Nat.eq_zero_or_pos m with h0 | h0
      · exact h0
      · obtain ⟨ad, h, _⟩ := hr.2 h0
        cases h
    subst hm
    have hn : news = [] := List.eq_nil_of_length_eq_zero (by simpa using hr.1)
    subst hn
    exact ⟨v, w, run_append_of_nil w base t ty e i size ht hi v n xs hown c, by simpa using hown, World.grownBy.refl w _, .inl rfl⟩
  · have hcells : ∀ j u, news[j]? = some u → w.cell? (ad.add j) = some u := by
      intro j u hu
      rcases Nat.eq_zero_or_pos m with h0 | h0
      · subst h0
        have hn : news = [] := List.eq_nil_of_length_eq_zero (by simpa using hr.1)
        subst hn
        simp at hu
      · obtain ⟨ad', h, _, hc⟩ := hr.2 h0
        injection h with h
        subst h
        exact hc j u hu
    obtain ⟨v', w', hrun, h2, h3, _, h5⟩ := run_append_own_at (P := P) w base t ty e i z size bytes ht hi hz hsize hby hzs hsz v n xs hown ad m c news hr.1 hcells h1 h63 hbytes hbase
    exact ⟨v', w', hrun, h2, h3, h5⟩

theorem wp_append_any {o : Oper} {a : Act} {K : Act → World → Prop} {Q : Exit → Act → World → Prop} (s x : Operand) (t : TypeId)
    (ho : o.op = .call { callee := .builtin .append, args := #[s, x], argTypes := #[t, t] })
    (base : Nat) (e : TypeId) (i : TypeInfo) (z : Value) (size bytes : Nat) (ht : P.underlying t = some (.slice e)) (hi : P.info? e = some i) (hz : i.zero = some z)
    (hsize : i.size = size) (hby : i.bytes = bytes) (hzs : z.cells.size = size) (hsz : 0 < size)
    (v : Value) (n : Nat) (xs : List Value) (hs : a.eval s = v) (hown : w.ownsRow base e size v n xs)
    (B : Nat) (A : Option Addr) (m c : Nat) (news : List Value) (hx : a.eval x = .slice A m c) (hr : Reads w B size A m news) (h1 : ∀ u ∈ news, u.oneCell' = true)
    (h63 : n + m ≤ maxLen) (hbytes : (n + m) * bytes ≤ 140737488355328) (hbase : base ≤ w.heap.size)
    (h : ∀ v' w', w'.ownsRow base e size v' (n + m) (xs ++ news) → w.grownBy w' v.ownBlock → (v'.ownBlock = v.ownBlock ∨ v'.ownBlock = some w.heap.size) → K (a.put o.dst v') w') : o.wp P a w K Q := by
  obtain ⟨v', w', hrun, h2, h3, h4⟩ := run_append_any (P := P) w base t o.type e i z size bytes ht hi hz hsize hby hzs hsz v n xs hown B A m c news hr h1 h63 hbytes hbase
  unfold Oper.wp execOp
  simp only [ho, resolve, invoke, builtin, Sem.run_bind, Sem.run_pure, Result.andThen_ok, List.map_toArray, List.map_cons, List.map_nil, hs, hx, hrun]
  exact h v' w' h2 h3 h4

theorem wpList_append_any {ops : Array Oper} {rest : List Oper} {o : Oper} {a : Act} {Q : Exit → Act → World → Prop} (hgd : o.guard = none) (s x : Operand) (t : TypeId)
    (ho : o.op = .call { callee := .builtin .append, args := #[s, x], argTypes := #[t, t] })
    (base : Nat) (e : TypeId) (i : TypeInfo) (z : Value) (size bytes : Nat) (ht : P.underlying t = some (.slice e)) (hi : P.info? e = some i) (hz : i.zero = some z)
    (hsize : i.size = size) (hby : i.bytes = bytes) (hzs : z.cells.size = size) (hsz : 0 < size)
    (v : Value) (n : Nat) (xs : List Value) (hs : a.eval s = v) (hown : w.ownsRow base e size v n xs)
    (B : Nat) (A : Option Addr) (m c : Nat) (news : List Value) (hx : a.eval x = .slice A m c) (hr : Reads w B size A m news) (h1 : ∀ u ∈ news, u.oneCell' = true)
    (h63 : n + m ≤ maxLen) (hbytes : (n + m) * bytes ≤ 140737488355328) (hbase : base ≤ w.heap.size)
    (h : ∀ v' w', w'.ownsRow base e size v' (n + m) (xs ++ news) → w.grownBy w' v.ownBlock → (v'.ownBlock = v.ownBlock ∨ v'.ownBlock = some w.heap.size) → wpList P ops Q rest (a.put o.dst v') w') : wpList P ops Q (o :: rest) a w :=
  wpList_plain hgd fun _ hK => wp_append_any w s x t ho base e i z size bytes ht hi hz hsize hby hzs hsz v n xs hs hown B A m c news hx hr h1 h63 hbytes hbase fun v' w' h2 h3 h4 => hK _ _ (h v' w' h2 h3 h4)

theorem step_append_any {ops : Array Oper} {o : Oper} {a : Act} {K : Act → World → Prop} {Q : Exit → Act → World → Prop} {E : Prop} (hgd : o.guard = none) (s x : Operand) (t : TypeId)
    (ho : o.op = .call { callee := .builtin .append, args := #[s, x], argTypes := #[t, t] })
    (base : Nat) (e : TypeId) (i : TypeInfo) (z : Value) (size bytes : Nat) (ht : P.underlying t = some (.slice e)) (hi : P.info? e = some i) (hz : i.zero = some z)
    (hsize : i.size = size) (hby : i.bytes = bytes) (hzs : z.cells.size = size) (hsz : 0 < size)
    (v : Value) (n : Nat) (xs : List Value) (hs : a.eval s = v) (hown : w.ownsRow base e size v n xs)
    (B : Nat) (A : Option Addr) (m c : Nat) (news : List Value) (hx : a.eval x = .slice A m c) (hr : Reads w B size A m news) (h1 : ∀ u ∈ news, u.oneCell' = true)
    (h63 : n + m ≤ maxLen) (hbytes : (n + m) * bytes ≤ 140737488355328) (hbase : base ≤ w.heap.size)
    (h : ∀ v' w', w'.ownsRow base e size v' (n + m) (xs ++ news) → w.grownBy w' v.ownBlock → (v'.ownBlock = v.ownBlock ∨ v'.ownBlock = some w.heap.size) → K (a.put o.dst v') w') :
    if Region.wanted o (yielded ops a.tmps) = true then Oper.wp P o a w K Q else E := by
  have hw : Region.wanted o (yielded ops a.tmps) = true := by simp [Region.wanted, hgd]
  rw [if_pos hw]
  exact wp_append_any w s x t ho base e i z size bytes ht hi hz hsize hby hzs hsz v n xs hs hown B A m c news hx hr h1 h63 hbytes hbase h
end

section
open Go.Joins Go.ChangeShapes Go.WideShapes Go.Deep
section
variable {H : Type} {enc : TypeId × Value → H} {P : Program} {w : World} {base : Nat} {spare : Nat → Bool} {held : Bool}
theorem open_slice_fields {t e : TypeId} {fs : Array Field} {fuel : Nat} {cs : List Value} {x : DataW H × List MemPlace} (ht : P.underlying t = some (.slice e)) (he : P.underlying e = some (.struct fs))
    (hone : oneCellFields P fs = true) (hC : P.cellsOf e = fs.size) (h : DataW.trod enc P w base spare held fuel t cs = some x) :
    (cs = [.slice none 0 0] ∧ x = (.nil, [])) ∨
    ∃ (a : Addr) (len cap m : Nat) (D : Nat → DataW H) (Pl : Nat → List MemPlace), cs = [.slice (some a) len cap] ∧ base ≤ a.block ∧ len ≤ cap ∧ cap ≤ maxLen ∧ m = (if spare a.block then cap else len) ∧
      x = (.slice ((List.range len).map D) ((List.range (m - len)).map fun j => D (len + j)), MemPlace.row a (m * fs.size) ++ (List.range m).flatMap Pl) ∧
      ∀ i, i < m → ∃ (ys : List (DataW H × List MemPlace)) (n : Nat), D i = .agg (ys.map (·.1)) ∧ Pl i = ys.flatMap (·.2) ∧ ys.length = fs.size ∧
        ∀ (j : Nat) (f : Field), fs[j]? = some f → ∃ (v : Value) (y : DataW H × List MemPlace), w.cell? (a.add (i * fs.size + j)) = some v ∧ ys[j]? = some y ∧ DataW.trod enc P w base spare held n f.type [v] = some y := by
  rcases open_slice ht h with h0 | ⟨a, len, cap, m, n, D, Pl, hcs, hb, hl, hm, hmm, hx, hi⟩
  · exact .inl h0
  · refine .inr ⟨a, len, cap, m, D, Pl, hcs, hb, hl, hm, hmm, by rw [hC] at hx; exact hx, fun i him => ?_⟩
    obtain ⟨cs', hc, ht'⟩ := hi i him
    rw [hC] at hc
    obtain ⟨ys, n', hn', hy, hlen, hyl, hf⟩ := DataW.trod_struct he ht'
    obtain ⟨_, hcl, hat⟩ := World.cells?_some hc
    simp only [Prod.mk.injEq] at hy
    refine ⟨ys, n', hy.1, hy.2, hyl, fun j f hj => ?_⟩
    obtain ⟨ho, hk⟩ := hone_of hone j f hj
    have hjl : j < fs.size := (Array.getElem?_eq_some_iff.1 hj).1
    have hcell := hat j hjl
    have hv : cs'[j]? = some (cs'[j]'(by omega)) := List.getElem?_eq_getElem (by omega)
    have h1 := hf j f hj
    rw [ho, hk] at h1
    have hone' : (cs'.drop j).take 1 = [cs'[j]'(by omega)] := by
      rw [List.drop_eq_getElem_cons (by omega)]
      rfl
    rw [hone'] at h1
    have hys : ys[j]? = some (ys[j]'(by omega)) := List.getElem?_eq_getElem (by omega)
    refine ⟨_, _, ?_, hys, h1.trans hys⟩
    rw [← Go.Deep.add_add, hcell, hv]
end

section
variable {H : Type} {enc : TypeId × Value → H} {P : Program} {w : World} {base : Nat} {spare : Nat → Bool} {held : Bool}
theorem open_agg5 {r : Reach} {b0 : Nat} {t : TypeId} {f0 f1 f2 f3 f4 : Field} {v : Value} {d : DataW H} {p : List MemPlace} (hs : P.underlying t = some (.struct #[f0, f1, f2, f3, f4])) (hone : oneCellFields P #[f0, f1, f2, f3, f4] = true) (hC : P.cellsOf t = 5)
    (hv : Value.okWide P w r b0 t v) (h : DataW.Trod enc P w base spare held t v d p) :
    ∃ (v0 v1 v2 v3 v4 : Value) (y0 y1 y2 y3 y4 : DataW H × List MemPlace) (n : Nat), v = .agg #[v0, v1, v2, v3, v4] ∧ d = .agg [y0.1, y1.1, y2.1, y3.1, y4.1] ∧ p = y0.2 ++ (y1.2 ++ (y2.2 ++ (y3.2 ++ y4.2))) ∧
      DataW.trod enc P w base spare held n f0.type [v0] = some y0 ∧ DataW.trod enc P w base spare held n f1.type [v1] = some y1 ∧ DataW.trod enc P w base spare held n f2.type [v2] = some y2 ∧ DataW.trod enc P w base spare held n f3.type [v3] = some y3 ∧ DataW.trod enc P w base spare held n f4.type [v4] = some y4 := by
  obtain ⟨cs, rfl, hsz⟩ := okWide_struct hs hv
  obtain ⟨l⟩ := cs
  match l, hsz.trans hC with
  | [c0, c1, c2, c3, c4], _ =>
    obtain ⟨fuel, hf⟩ := h
    obtain ⟨xs, n, _, hx, _, hlen, hg⟩ := DataW.trod_struct hs hf
    obtain ⟨o0, k0⟩ := hone_of hone 0 f0 rfl
    obtain ⟨o1, k1⟩ := hone_of hone 1 f1 rfl
    obtain ⟨o2, k2⟩ := hone_of hone 2 f2 rfl
    obtain ⟨o3, k3⟩ := hone_of hone 3 f3 rfl
    obtain ⟨o4, k4⟩ := hone_of hone 4 f4 rfl
    match xs, hlen with
    | [y0, y1, y2, y3, y4], _ =>
      simp only [Prod.mk.injEq] at hx
      exact ⟨c0, c1, c2, c3, c4, y0, y1, y2, y3, y4, n, rfl, by simpa using hx.1, by simpa using hx.2, by simpa [Value.cells, o0, k0] using hg 0 f0 rfl, by simpa [Value.cells, o1, k1] using hg 1 f1 rfl, by simpa [Value.cells, o2, k2] using hg 2 f2 rfl, by simpa [Value.cells, o3, k3] using hg 3 f3 rfl, by simpa [Value.cells, o4, k4] using hg 4 f4 rfl⟩

theorem open_agg6 {r : Reach} {b0 : Nat} {t : TypeId} {f0 f1 f2 f3 f4 f5 : Field} {v : Value} {d : DataW H} {p : List MemPlace} (hs : P.underlying t = some (.struct #[f0, f1, f2, f3, f4, f5])) (hone : oneCellFields P #[f0, f1, f2, f3, f4, f5] = true) (hC : P.cellsOf t = 6)
    (hv : Value.okWide P w r b0 t v) (h : DataW.Trod enc P w base spare held t v d p) :
    ∃ (v0 v1 v2 v3 v4 v5 : Value) (y0 y1 y2 y3 y4 y5 : DataW H × List MemPlace) (n : Nat), v = .agg #[v0, v1, v2, v3, v4, v5] ∧ d = .agg [y0.1, y1.1, y2.1, y3.1, y4.1, y5.1] ∧ p = y0.2 ++ (y1.2 ++ (y2.2 ++ (y3.2 ++ (y4.2 ++ y5.2)))) ∧
      DataW.trod enc P w base spare held n f0.type [v0] = some y0 ∧ DataW.trod enc P w base spare held n f1.type [v1] = some y1 ∧ DataW.trod enc P w base spare held n f2.type [v2] = some y2 ∧ DataW.trod enc P w base spare held n f3.type [v3] = some y3 ∧ DataW.trod enc P w base spare held n f4.type [v4] = some y4 ∧ DataW.trod enc P w base spare held n f5.type [v5] = some y5 := by
  obtain ⟨cs, rfl, hsz⟩ := okWide_struct hs hv
  obtain ⟨l⟩ := cs
  match l, hsz.trans hC with
  | [c0, c1, c2, c3, c4, c5], _ =>
    obtain ⟨fuel, hf⟩ := h
    obtain ⟨xs, n, _, hx, _, hlen, hg⟩ := DataW.trod_struct hs hf
    obtain ⟨o0, k0⟩ := hone_of hone 0 f0 rfl
    obtain ⟨o1, k1⟩ := hone_of hone 1 f1 rfl
    obtain ⟨o2, k2⟩ := hone_of hone 2 f2 rfl
    obtain ⟨o3, k3⟩ := hone_of hone 3 f3 rfl
    obtain ⟨o4, k4⟩ := hone_of hone 4 f4 rfl
    obtain ⟨o5, k5⟩ := hone_of hone 5 f5 rfl
    match xs, hlen with
    | [y0, y1, y2, y3, y4, y5], _ =>
      simp only [Prod.mk.injEq] at hx
      exact ⟨c0, c1, c2, c3, c4, c5, y0, y1, y2, y3, y4, y5, n, rfl, by simpa using hx.1, by simpa using hx.2, by simpa [Value.cells, o0, k0] using hg 0 f0 rfl, by simpa [Value.cells, o1, k1] using hg 1 f1 rfl, by simpa [Value.cells, o2, k2] using hg 2 f2 rfl, by simpa [Value.cells, o3, k3] using hg 3 f3 rfl, by simpa [Value.cells, o4, k4] using hg 4 f4 rfl, by simpa [Value.cells, o5, k5] using hg 5 f5 rfl⟩
end

end
section
open Go.WideShapes Go.ChangeShapes
section
variable {H : Type} {enc : TypeId × Value → H} {P : Program}
theorem post_of_below {f : Func} {s : ChangeSpec} {apart fresh handsOn again : Bool} {W W' : World} {args : Array Value} {v : Value} {ds gs : List (DataW H)} {before pa pv : List MemPlace}
    (hW : DataW.Whole enc P f.params.toList s.vars apart W args.toList ds gs before)
    (hres : ∀ (b : Nat) (sp : Nat → Bool) (hd : Bool), DataW.TrodAll enc P W' b sp hd f.resultTypes.toList (v.resultList f.resultTypes.size) (s.fn H (ds ++ gs)).results [])
    (hargs : ∀ sp : Nat → Bool, (∀ p ∈ before, sp p.block = true) → DataW.TrodAll enc P W' 0 sp true f.params.toList args.toList (s.fn H (ds ++ gs)).args pa)
    (hvars : ∀ sp : Nat → Bool, (∀ p ∈ before, sp p.block = true) → DataW.TrodVars enc P W' sp s.vars (s.fn H (ds ++ gs)).vars pv)
    (hps : before = pa ++ pv) (hb : Below W.heap.size W W')
    (hok : ∀ (j : Nat) (t : TypeId) (r : Value), f.resultTypes[j]? = some t → (v.resultList f.resultTypes.size)[j]? = some r → Value.okWide P W' .any 0 t r) :
    s.post enc P f apart fresh handsOn again W args v W' := by
  have hlt : ∀ p ∈ before, p.block < W.heap.size := fun p hp => hW.lt p hp
  have hold : ∀ p ∈ before, (fun b => decide (b < W.heap.size)) p.block = true := fun p hp => by simpa using hlt p hp
  refine ⟨ds, gs, before, [], pa, pv, hW, hres _ _ _, hargs _ hold, hvars _ hold, World.keptBut_mono (fun p hp => ⟨hp, ?_⟩) (hb.frame (· ∈ before)), fun _ => ?_⟩
  · rw [hps, List.mem_append] at hp
    exact Or.inr hp
  · obtain ⟨_, _, _, _, _, hz, hn⟩ := hW
    refine ⟨hok, _, _, ([] ++ pa) ++ pv, ⟨[] ++ pa, pv, trodAll_append (hargs _ (fun _ _ => rfl)) (hres _ _ _), hvars _ (fun _ _ => rfl), rfl, ?_, ?_⟩, ?_⟩
    · intro b off hp
      have hin : MemPlace.cell b off ∈ before := by rw [hps]; simpa using hp
      rw [hb.frozen (hlt _ hin)]
      exact hz b off hin
    · intro ha
      have := hn ha
      rw [hps] at this
      simpa using this
    · intro p hp _
      rw [hps]
      simpa using hp
end

end
theorem hide {p : Prop} (h : p) : Hid p := h
theorem unhide {p : Prop} (h : Hid p) : p := h

theorem results_tmp4 {fn : Func} {t u v x : Tmp} (h : fn.results = #[.tmp t, .tmp u, .tmp v, .tmp x]) (tmps : Array Value) (P : Program) (w : World) :
    (results fn tmps).run P w = .ok (.tuple #[tmps.getD t undef, tmps.getD u undef, tmps.getD v undef, tmps.getD x undef]) w := by simp [results, h]
theorem results_tmp5 {fn : Func} {t u v x y : Tmp} (h : fn.results = #[.tmp t, .tmp u, .tmp v, .tmp x, .tmp y]) (tmps : Array Value) (P : Program) (w : World) :
    (results fn tmps).run P w = .ok (.tuple #[tmps.getD t undef, tmps.getD u undef, tmps.getD v undef, tmps.getD x undef, tmps.getD y undef]) w := by simp [results, h]

theorem run_make_rowN {P : Program} (t e : TypeId) (i : TypeInfo) (z : Value) (ht : P.underlying t = some (.slice e)) (hi : P.info? e = some i) (hz : i.zero = some z)
    (kl kc : IntKind) (n c : Nat) (hnc : n ≤ c) (hbytes : i.bytes * c ≤ 281474976710656) (h63 : c ≤ 9223372036854775807) (w : World) :
    (Instr.makeSlice t (.int kl (n : Int)) (.int kc (c : Int))).run P w = .ok (.slice (some ⟨w.heap.size, 0, none⟩) n c) (w.alloc (.cells (madeCells z.cells (c * i.size)) e)) := by
  have hb : (i.bytes : Int) * (c : Int) ≤ 281474976710656 := by
    have h : ((i.bytes * c : Nat) : Int) ≤ 281474976710656 := by omega
    rwa [Int.natCast_mul] at h
  have hr := run_make (P := P) w t e i z ht hi hz kl kc n c (by omega) (by omega) hb (by omega)
  simp only [Int.toNat_natCast] at hr
  exact hr
theorem run_makeMap_hint {P : Program} (t k e : TypeId) (kd : IntKind) (n : Int) (ht : P.underlying t = some (.map k e)) (w : World) :
    (Instr.makeMap t (some (.int kd n))).run P w = .ok (.map (some w.heap.size)) (w.alloc (.map #[] 0)) := by
  simp [Instr.makeMap, run_underlying ht]; rfl

theorem ofInt_i64 (a : Nat) (ha : a < 9223372036854775808) : (BitVec.ofInt 64 (a : Int)).toNat = a := by
  rw [BitVec.ofInt_natCast, BitVec.toNat_ofNat]; exact Nat.mod_eq_of_lt (by omega)
theorem i64_and_nat (a b : Nat) (ha : a < 9223372036854775808) (hb : b < 9223372036854775808) : bits .and .i64 (a : Int) (b : Int) = ((a &&& b : Nat) : Int) := by
  have hx : a &&& b < 2 ^ 63 := Nat.and_lt_two_pow _ (by omega)
  show IntKind.i64.wrap ((BitVec.ofInt 64 (a : Int) &&& BitVec.ofInt 64 (b : Int)).toNat : Int) = _
  rw [BitVec.toNat_and, ofInt_i64 a ha, ofInt_i64 b hb, IntKind.wrap_i64]
  omega
theorem i64_or_nat (a b : Nat) (ha : a < 9223372036854775808) (hb : b < 9223372036854775808) : bits .or .i64 (a : Int) (b : Int) = ((a ||| b : Nat) : Int) := by
  have hx : a ||| b < 2 ^ 63 := Nat.or_lt_two_pow (by omega) (by omega)
  show IntKind.i64.wrap ((BitVec.ofInt 64 (a : Int) ||| BitVec.ofInt 64 (b : Int)).toNat : Int) = _
  rw [BitVec.toNat_or, ofInt_i64 a ha, ofInt_i64 b hb, IntKind.wrap_i64]
  omega
theorem i64_xor_nat (a b : Nat) (ha : a < 9223372036854775808) (hb : b < 9223372036854775808) : bits .xor .i64 (a : Int) (b : Int) = ((a ^^^ b : Nat) : Int) := by
  have hx : a ^^^ b < 2 ^ 63 := Nat.xor_lt_two_pow (by omega) (by omega)
  show IntKind.i64.wrap ((BitVec.ofInt 64 (a : Int) ^^^ BitVec.ofInt 64 (b : Int)).toNat : Int) = _
  rw [BitVec.toNat_xor, ofInt_i64 a ha, ofInt_i64 b hb, IntKind.wrap_i64]
  omega

theorem ret_int {k : IntKind} {a b : Int} (h : a = b) : Ending.returned (.int k a) = .returned (.int k b) := by rw [h]
theorem ret_bool {a b : Bool} (h : a = b) : Ending.returned (.bool a) = .returned (.bool b) := by rw [h]
theorem bcell {W w1 : World} (hb : Below W.heap.size W w1) : (∀ b o, b < W.heap.size → w1.cell? ⟨b, o, none⟩ = W.cell? ⟨b, o, none⟩) ∧ (∀ b o, b < W.heap.size → w1.frozen? ⟨b, o, none⟩ = W.frozen? ⟨b, o, none⟩) :=
  ⟨fun b o h => hb.cell (p := ⟨b, o, none⟩) h, fun b o h => hb.frozen (p := ⟨b, o, none⟩) h⟩
end Go.Proofs.YtkjndkeboeieoaaGreatDoor

namespace Go.Proofs.YtkjndkeboeieoaaGreatDoor
open Go.Lib

def isDg (c : UInt8) : Prop := 48 ≤ c.toNat ∧ c.toNat ≤ 57
theorem dgN {k : Nat} (h : k < 10) : (UInt8.ofNat (48 + k)).toNat = 48 + k := by
  rw [UInt8.toNat_ofNat']
  omega
theorem dec_small {u : Nat} (h : u < 10) : decDigits u = [UInt8.ofNat (48 + u)] := by rw [decDigits, dif_pos h]
theorem dec_big {u : Nat} (h : ¬ u < 10) : decDigits u = decDigits (u / 10) ++ [UInt8.ofNat (48 + u % 10)] := by rw [decDigits, dif_neg h]
theorem dec_ne (u : Nat) : decDigits u ≠ [] := by
  by_cases h : u < 10
  · rw [dec_small h]; simp
  · rw [dec_big h]; simp
theorem dec_dg : ∀ (u : Nat), ∀ c ∈ decDigits u, isDg c := by
  intro u
  induction u using Nat.strongRecOn with
  | _ u ih =>
    intro c hc
    by_cases h : u < 10
    · rw [dec_small h] at hc
      rw [List.mem_singleton.1 hc]
      unfold isDg
      rw [dgN h]
      omega
    · rw [dec_big h] at hc
      rcases List.mem_append.1 hc with h1 | h1
      · exact ih (u / 10) (by omega) c h1
      · rw [List.mem_singleton.1 h1]
        unfold isDg
        rw [dgN (by omega)]
        omega
/-- what digits spell, behind a number -/
def valL (acc : Nat) (l : List UInt8) : Nat := l.foldl (fun a c => a * 10 + (c.toNat - 48)) acc
theorem valL_append (acc : Nat) (l r : List UInt8) : valL acc (l ++ r) = valL (valL acc l) r := List.foldl_append
theorem valL_dec : ∀ (u : Nat), valL 0 (decDigits u) = u := by
  intro u
  induction u using Nat.strongRecOn with
  | _ u ih =>
    by_cases h : u < 10
    · rw [dec_small h]
      show 0 * 10 + ((UInt8.ofNat (48 + u)).toNat - 48) = u
      rw [dgN h]
      omega
    · rw [dec_big h, valL_append, ih (u / 10) (by omega)]
      show u / 10 * 10 + ((UInt8.ofNat (48 + u % 10)).toNat - 48) = u
      rw [dgN (by omega)]
      omega
theorem valL_ge (acc : Nat) (l : List UInt8) : acc ≤ valL acc l := by
  induction l generalizing acc with
  | nil => exact Nat.le_refl _
  | cons c r ih =>
    have := ih (acc * 10 + (c.toNat - 48))
    show acc ≤ valL (acc * 10 + (c.toNat - 48)) r
    omega
theorem valL_lt (l : List UInt8) (h : ∀ c ∈ l, isDg c) (acc : Nat) : valL acc l < (acc + 1) * 10 ^ l.length := by
  induction l generalizing acc with
  | nil => show acc < (acc + 1) * 1; omega
  | cons c r ih =>
    have h1 := ih (fun x hx => h x (List.mem_cons_of_mem _ hx)) (acc * 10 + (c.toNat - 48))
    have h2 := h c (List.mem_cons_self ..)
    unfold isDg at h2
    show valL (acc * 10 + (c.toNat - 48)) r < _
    rw [List.length_cons, Nat.pow_succ, Nat.mul_comm (10 ^ r.length) 10, ← Nat.mul_assoc]
    exact Nat.lt_of_lt_of_le h1 (Nat.mul_le_mul_right _ (by omega))
/-- digits without superfluous zeros are the numeral of what they spell -/
theorem dec_valL (l : List UInt8) (h : ∀ c ∈ l, isDg c) (h1 : l ≠ []) (h0 : 1 < l.length → l.head?.map UInt8.toNat ≠ some 48) : decDigits (valL 0 l) = l := by
  have key : ∀ (r : List UInt8) (c : UInt8), (∀ x ∈ r, isDg x) → isDg c → c.toNat ≠ 48 → decDigits (valL 0 (c :: r)) = c :: r := by
    intro r
    induction hn : r.length generalizing r with
    | zero =>
      intro c _ hc _
      rw [List.length_eq_zero_iff.1 hn]
      unfold isDg at hc
      show decDigits (0 * 10 + (c.toNat - 48)) = [c]
      rw [dec_small (by omega)]
      congr 1
      apply UInt8.toNat_inj.1
      rw [dgN (by omega)]
      omega
    | succ n ih =>
      intro c hr hc hz
      obtain ⟨r', x, rfl⟩ : ∃ r' x, r = r' ++ [x] := ⟨r.dropLast, r.getLast (by intro e; simp [e] at hn), (List.dropLast_concat_getLast _).symm⟩
      have hl : r'.length = n := by simp at hn; omega
      have e := ih r' hl c (fun y hy => hr y (List.mem_append_left _ hy)) hc hz
      have hx := hr x (by simp)
      unfold isDg at hx hc
      have hv : 1 ≤ valL 0 (c :: r') := by
        have := valL_ge (0 * 10 + (c.toNat - 48)) r'
        show 1 ≤ valL (0 * 10 + (c.toNat - 48)) r'
        omega
      rw [← List.cons_append, valL_append]
      show decDigits (valL 0 (c :: r') * 10 + (x.toNat - 48)) = _
      generalize valL 0 (c :: r') = v at *
      rw [dec_big (by omega), show (v * 10 + (x.toNat - 48)) / 10 = v by omega, e]
      congr 2
      apply UInt8.toNat_inj.1
      rw [dgN (by omega)]
      omega
  cases l with
  | nil => exact absurd rfl h1
  | cons c r =>
    by_cases hz : c.toNat = 48
    · have : r = [] := by
        cases r with
        | nil => rfl
        | cons d r => exact absurd (by simp [hz]) (h0 (by simp))
      subst this
      show decDigits (0 * 10 + (c.toNat - 48)) = [c]
      rw [hz, dec_small (by omega)]
      congr 1
      apply UInt8.toNat_inj.1
      rw [hz]
      rfl
    · exact key r c (fun x hx => h x (List.mem_cons_of_mem _ hx)) (h c (List.mem_cons_self ..)) hz
theorem dec_head {u : Nat} (h : 10 ≤ u) : (decDigits u).head?.map UInt8.toNat ≠ some 48 := by
  have : ∀ v, 1 ≤ v → (decDigits v).head?.map UInt8.toNat ≠ some 48 := by
    intro v
    induction v using Nat.strongRecOn with
    | _ v ih =>
      intro hv
      by_cases h : v < 10
      · rw [dec_small h]
        show some (UInt8.ofNat (48 + v)).toNat ≠ some 48
        rw [dgN h]
        intro e
        injection e
        omega
      · rw [dec_big h, List.head?_append]
        have hi := ih (v / 10) (by omega) (by omega)
        cases hd : decDigits (v / 10) with
        | nil => exact absurd hd (dec_ne _)
        | cons c r => rw [hd] at hi; simpa using hi
  exact this u (by omega)
theorem dec_len1 {u : Nat} (h : 1 < (decDigits u).length) : 10 ≤ u := by
  by_cases h1 : u < 10
  · rw [dec_small h1] at h; simp at h
  · omega
/-- ParseUint over digits -/
theorem parse_digits (l : List UInt8) (h : ∀ c ∈ l, isDg c) (acc : Nat) (hv : valL acc l < 18446744073709551616) : parseUint10 acc l = .ok (valL acc l) := by
  induction l generalizing acc with
  | nil => rfl
  | cons c r ih =>
    have h2 := h c (List.mem_cons_self ..)
    unfold isDg at h2
    have e : valL acc (c :: r) = valL (acc * 10 + (c.toNat - 48)) r := rfl
    have hg := valL_ge (acc * 10 + (c.toNat - 48)) r
    rw [e] at hv ⊢
    have h3 := ih (fun x hx => h x (List.mem_cons_of_mem _ hx)) (acc * 10 + (c.toNat - 48)) hv
    simp only [parseUint10]
    rw [if_pos h2, if_neg (by omega), if_neg (by omega)]
    exact h3
theorem atoi_digits (l : List UInt8) (h : ∀ c ∈ l, isDg c) (h1 : l ≠ []) (hv : valL 0 l < 9223372036854775808) : atoiAll l = .ok (valL 0 l : Nat) := by
  cases l with
  | nil => exact absurd rfl h1
  | cons c r =>
    have h2 := h c (List.mem_cons_self ..)
    unfold isDg at h2
    rw [atoiAll_plain c r (by omega) (by omega)]
    unfold parseMag
    rw [if_neg (by simp), parse_digits (c :: r) h 0 (by omega)]
    simp only [signless]
    rw [if_neg (by omega)]
theorem itoa_nat (u : Nat) : itoa (u : Int) = decDigits u := by unfold itoa; rw [if_neg (by omega)]; rfl
theorem itoa_neg {n : Int} (h : n < 0) : itoa n = 45 :: decDigits n.natAbs := by unfold itoa; rw [if_pos h]
theorem itoa_pos {n : Int} (h : 0 ≤ n) : itoa n = decDigits n.toNat := by unfold itoa; rw [if_neg (by omega)]
theorem atoi_itoa {n : Int} (h0 : -9223372036854775808 ≤ n) (h1 : n ≤ 9223372036854775807) : atoiAll (itoa n) = .ok n := by
  by_cases h : n < 0
  · rw [itoa_neg h, atoiAll_minus]
    unfold parseMag
    rw [if_neg (dec_ne _), parse_digits _ (dec_dg _) 0 (by rw [valL_dec]; omega), valL_dec]
    simp only [signed]
    rw [if_neg (by omega)]
    congr 1
    omega
  · rw [itoa_pos (by omega), atoi_digits _ (dec_dg _) (dec_ne _) (by rw [valL_dec]; omega), valL_dec]
    congr 1
    omega
theorem itoa_mem {n : Int} {c : UInt8} (h : c ∈ itoa n) : isDg c ∨ c.toNat = 45 := by
  by_cases hn : n < 0
  · rw [itoa_neg hn] at h
    rcases List.mem_cons.1 h with rfl | h
    · exact .inr rfl
    · exact .inl (dec_dg _ _ h)
  · rw [itoa_pos (by omega)] at h
    exact .inl (dec_dg _ _ h)
theorem itoa_inj {m n : Int} (h : itoa m = itoa n) : m = n := by
  by_cases hm : m < 0
  · by_cases hn : n < 0
    · rw [itoa_neg hm, itoa_neg hn] at h
      injection h with _ h
      have := congrArg (valL 0) h
      rw [valL_dec, valL_dec] at this
      omega
    · rw [itoa_neg hm, itoa_pos (by omega)] at h
      have : (45 : UInt8) ∈ decDigits n.toNat := h ▸ List.mem_cons_self ..
      have := dec_dg _ _ this
      exact absurd this (by unfold isDg; decide)
  · by_cases hn : n < 0
    · rw [itoa_pos (by omega), itoa_neg hn] at h
      have : (45 : UInt8) ∈ decDigits m.toNat := h ▸ List.mem_cons_self ..
      have := dec_dg _ _ this
      exact absurd this (by unfold isDg; decide)
    · rw [itoa_pos (by omega), itoa_pos (by omega)] at h
      have := congrArg (valL 0) h
      rw [valL_dec, valL_dec] at this
      omega
/-- no instance where the first byte is not there -/
theorem index_no {c : UInt8} {t : List UInt8} : ∀ {s : List UInt8}, c ∉ s → index s (c :: t) = -1
  | [], _ => by simp [index]
  | b :: l, h => by
    have h1 : ¬ c = b := fun e => h (e ▸ List.mem_cons_self ..)
    have h2 := index_no (t := t) (fun h' => h (List.mem_cons_of_mem _ h') : c ∉ l)
    simp [index, List.isPrefixOf, h1, h2]
theorem index_at {c : UInt8} {t r : List UInt8} : ∀ {a : List UInt8}, c ∉ a → index (a ++ ((c :: t) ++ r)) (c :: t) = (a.length : Int)
  | [], _ => by
    have : (c :: t).isPrefixOf (c :: (t ++ r)) = true := by
      rw [List.isPrefixOf_iff_prefix]
      exact ⟨r, rfl⟩
    simp [index, this]
  | b :: l, h => by
    have h1 : ¬ c = b := fun e => h (e ▸ List.mem_cons_self ..)
    have h2 := index_at (t := t) (r := r) (fun h' => h (List.mem_cons_of_mem _ h') : c ∉ l)
    rw [List.cons_append]
    have h3 : (c :: t).isPrefixOf (b :: (l ++ ((c :: t) ++ r))) = false := by simp [List.isPrefixOf, h1]
    rw [index, h3, h2]
    have : ((l.length : Int) == -1) = false := by simp
    simp [this]
theorem cut_no {c : UInt8} {t s : List UInt8} (h : c ∉ s) : cut s (c :: t) = (s, [], false) := by
  unfold cut
  rw [index_no h, if_neg (by omega)]
theorem cut_at {c : UInt8} {t a r : List UInt8} (h : c ∉ a) : cut (a ++ ((c :: t) ++ r)) (c :: t) = (a, r, true) := by
  unfold cut
  rw [index_at h, if_pos (by omega)]
  simp
end Go.Proofs.YtkjndkeboeieoaaGreatDoor

namespace Go.Proofs.YtkjndkeboeieoaaGreatDoor
open Go.RowKit

theorem lt_of_cell {w : World} {p : Addr} {v : Value} (h : w.cell? p = some v) : p.block < w.heap.size := by
  rcases Nat.lt_or_ge p.block w.heap.size with hl | hl
  · exact hl
  · exfalso
    have : w.heap[p.block]? = none := Array.getElem?_eq_none hl
    simp [World.cell?, this] at h
theorem below_via {B : Nat} {a w w' : World} (h : Below B a w) (hB : B ≤ w.heap.size) (k : Below w.heap.size w w') : Below B a w' := h.trans (k.mono hB)
theorem below_cells {B : Nat} {W w1 : World} (hb : Below B W w1) : (∀ b o, b < B → w1.cell? ⟨b, o, none⟩ = W.cell? ⟨b, o, none⟩) ∧ (∀ b o, b < B → w1.frozen? ⟨b, o, none⟩ = W.frozen? ⟨b, o, none⟩) :=
  ⟨fun b o h => hb.cell (p := ⟨b, o, none⟩) h, fun b o h => hb.frozen (p := ⟨b, o, none⟩) h⟩
theorem Blk.off {w : World} {g : Nat} {t : TypeId} {cs : Array Value} (h : Blk w g t cs) {b o : Nat} (hp : g ≠ b) (u : Value) : Blk (w.setCell ⟨b, o, none⟩ u) g t cs := h.far (p := ⟨b, o, none⟩) hp u
theorem below_set {B : Nat} {a w : World} (h : Below B a w) {b o : Nat} (hp : B ≤ b) (u : Value) : Below B a (w.setCell ⟨b, o, none⟩ u) := h.setCell (p := ⟨b, o, none⟩) hp u
theorem keeps {w w' : World} (h : Below w.heap.size w w') : ∀ b o v, w.cell? ⟨b, o, none⟩ = some v → w'.cell? ⟨b, o, none⟩ = some v := fun b o _ hc => (h.cell (p := ⟨b, o, none⟩) (lt_of_cell hc)).trans hc

/-- what the call owns in W: each block of the list whole; what was there in w is as it was -/
def Own (w W : World) (L : List (Nat × TypeId × Array Value)) : Prop := Below w.heap.size w W ∧ ∀ x ∈ L, Blk W x.1 x.2.1 x.2.2
theorem Own.start (w : World) : Own w w [] := ⟨Below.refl _ _, fun _ h => by cases h⟩
theorem Own.to {w W W' : World} {L : List (Nat × TypeId × Array Value)} (h : Own w W L) (hb : Below W.heap.size W W') : Own w W' L :=
  ⟨below_via h.1 h.1.size hb, fun x hx => (h.2 x hx).below hb (h.2 x hx).lt⟩
theorem Own.drew {w W : World} {L : List (Nat × TypeId × Array Value)} (h : Own w W L) : Own w W.drew L := ⟨h.1.drew, fun x hx => (h.2 x hx).drew⟩
theorem Own.alloc {w W : World} {L : List (Nat × TypeId × Array Value)} (h : Own w W L) (cs : Array Value) (t : TypeId) : Own w (W.alloc (.cells cs t)) ((W.heap.size, t, cs) :: L) :=
  ⟨h.1.alloc h.1.size _, fun x hx => by
    rcases List.mem_cons.1 hx with rfl | hx
    · exact Blk.new W t cs
    · exact (h.2 x hx).alloc _⟩
/-- a store into the first block of the list -/
theorem Own.set0 {w W : World} {b : Nat} {t : TypeId} {cs : Array Value} {L : List (Nat × TypeId × Array Value)} (h : Own w W ((b, t, cs) :: L)) (hb : w.heap.size ≤ b) (hn : ∀ x ∈ L, x.1 ≠ b) (i : Nat) (u : Value) :
    Own w (W.setCell ⟨b, i, none⟩ u) ((b, t, cs.setIfInBounds i u) :: L) :=
  ⟨below_set h.1 hb u, fun x hx => by
    rcases List.mem_cons.1 hx with rfl | hx
    · exact (h.2 _ (List.mem_cons_self ..)).set_ i u
    · exact (h.2 x (List.mem_cons_of_mem _ hx)).off (hn x hx) u⟩
theorem Own.swap {w W : World} {x y : Nat × TypeId × Array Value} {L} (h : Own w W (x :: y :: L)) : Own w W (y :: x :: L) :=
  ⟨h.1, fun z hz => by
    rcases List.mem_cons.1 hz with rfl | hz
    · exact h.2 _ (by simp)
    · rcases List.mem_cons.1 hz with rfl | hz
      · exact h.2 _ (by simp)
      · exact h.2 _ (by simp [hz])⟩
/-- the rules that the walk uses of one block -/
def Rules (W : World) (x : Nat × TypeId × Array Value) : Prop := (∀ i, W.cell? ⟨x.1, i, none⟩ = x.2.2[i]?) ∧ (∀ i, W.frozen? ⟨x.1, i, none⟩ = false) ∧ x.1 < W.heap.size
theorem Blk.rules {W : World} {b : Nat} {t : TypeId} {cs : Array Value} (h : Blk W b t cs) : (∀ i, W.cell? ⟨b, i, none⟩ = cs[i]?) ∧ (∀ i, W.frozen? ⟨b, i, none⟩ = false) ∧ b < W.heap.size := ⟨h.cell, h.frozen, h.lt⟩
theorem Own.r1 {w W : World} {b0 : Nat} {t0 : TypeId} {c0 : Array Value} {L} (h : Own w W ((b0, t0, c0) :: L)) :
    (∀ i, W.cell? ⟨b0, i, none⟩ = c0[i]?) ∧ (∀ i, W.frozen? ⟨b0, i, none⟩ = false) ∧ b0 < W.heap.size := (h.2 (b0, t0, c0) (by simp)).rules
theorem Own.tail {w W : World} {x : Nat × TypeId × Array Value} {L} (h : Own w W (x :: L)) : Own w W L := ⟨h.1, fun y hy => h.2 y (List.mem_cons_of_mem _ hy)⟩
theorem Own.r2 {w W : World} {b0 b1 : Nat} {t0 t1 : TypeId} {c0 c1 : Array Value} {L} (h : Own w W ((b0, t0, c0) :: (b1, t1, c1) :: L)) :
    ((∀ i, W.cell? ⟨b0, i, none⟩ = c0[i]?) ∧ (∀ i, W.frozen? ⟨b0, i, none⟩ = false) ∧ b0 < W.heap.size) ∧
    ((∀ i, W.cell? ⟨b1, i, none⟩ = c1[i]?) ∧ (∀ i, W.frozen? ⟨b1, i, none⟩ = false) ∧ b1 < W.heap.size) := ⟨h.r1, h.tail.r1⟩
theorem Own.r3 {w W : World} {b0 b1 b2 : Nat} {t0 t1 t2 : TypeId} {c0 c1 c2 : Array Value} {L} (h : Own w W ((b0, t0, c0) :: (b1, t1, c1) :: (b2, t2, c2) :: L)) :
    ((∀ i, W.cell? ⟨b0, i, none⟩ = c0[i]?) ∧ (∀ i, W.frozen? ⟨b0, i, none⟩ = false) ∧ b0 < W.heap.size) ∧
    ((∀ i, W.cell? ⟨b1, i, none⟩ = c1[i]?) ∧ (∀ i, W.frozen? ⟨b1, i, none⟩ = false) ∧ b1 < W.heap.size) ∧
    ((∀ i, W.cell? ⟨b2, i, none⟩ = c2[i]?) ∧ (∀ i, W.frozen? ⟨b2, i, none⟩ = false) ∧ b2 < W.heap.size) := ⟨h.r1, h.tail.r2⟩
theorem Own.r4 {w W : World} {b0 b1 b2 b3 : Nat} {t0 t1 t2 t3 : TypeId} {c0 c1 c2 c3 : Array Value} {L} (h : Own w W ((b0, t0, c0) :: (b1, t1, c1) :: (b2, t2, c2) :: (b3, t3, c3) :: L)) :
    ((∀ i, W.cell? ⟨b0, i, none⟩ = c0[i]?) ∧ (∀ i, W.frozen? ⟨b0, i, none⟩ = false) ∧ b0 < W.heap.size) ∧
    ((∀ i, W.cell? ⟨b1, i, none⟩ = c1[i]?) ∧ (∀ i, W.frozen? ⟨b1, i, none⟩ = false) ∧ b1 < W.heap.size) ∧
    ((∀ i, W.cell? ⟨b2, i, none⟩ = c2[i]?) ∧ (∀ i, W.frozen? ⟨b2, i, none⟩ = false) ∧ b2 < W.heap.size) ∧
    ((∀ i, W.cell? ⟨b3, i, none⟩ = c3[i]?) ∧ (∀ i, W.frozen? ⟨b3, i, none⟩ = false) ∧ b3 < W.heap.size) := ⟨h.r1, h.tail.r3⟩
theorem Own.r5 {w W : World} {b0 b1 b2 b3 b4 : Nat} {t0 t1 t2 t3 t4 : TypeId} {c0 c1 c2 c3 c4 : Array Value} {L} (h : Own w W ((b0, t0, c0) :: (b1, t1, c1) :: (b2, t2, c2) :: (b3, t3, c3) :: (b4, t4, c4) :: L)) :
    ((∀ i, W.cell? ⟨b0, i, none⟩ = c0[i]?) ∧ (∀ i, W.frozen? ⟨b0, i, none⟩ = false) ∧ b0 < W.heap.size) ∧
    ((∀ i, W.cell? ⟨b1, i, none⟩ = c1[i]?) ∧ (∀ i, W.frozen? ⟨b1, i, none⟩ = false) ∧ b1 < W.heap.size) ∧
    ((∀ i, W.cell? ⟨b2, i, none⟩ = c2[i]?) ∧ (∀ i, W.frozen? ⟨b2, i, none⟩ = false) ∧ b2 < W.heap.size) ∧
    ((∀ i, W.cell? ⟨b3, i, none⟩ = c3[i]?) ∧ (∀ i, W.frozen? ⟨b3, i, none⟩ = false) ∧ b3 < W.heap.size) ∧
    ((∀ i, W.cell? ⟨b4, i, none⟩ = c4[i]?) ∧ (∀ i, W.frozen? ⟨b4, i, none⟩ = false) ∧ b4 < W.heap.size) := ⟨h.r1, h.tail.r4⟩
end Go.Proofs.YtkjndkeboeieoaaGreatDoor

namespace Go.Proofs.YtkjndkeboeieoaaGreatDoor
open Go Go.RowKit

abbrev strV (l : List UInt8) : Value := .string ⟨l.toArray⟩
theorem strV_data (s : ByteArray) : strV s.data.toList = .string s := by cases s; rfl
theorem strV_inj {a b : List UInt8} (h : strV a = strV b) : a = b := by
  injection h with h
  injection h with h
  simpa using h
theorem ba_append (a b : List UInt8) : (⟨a.toArray⟩ : ByteArray) ++ ⟨b.toArray⟩ = ⟨(a ++ b).toArray⟩ := by
  apply ByteArray.ext
  rw [ByteArray.data_append]
  simp
theorem tab_below {w w' : World} (h : Lib.TabIs Tryz.prog w "internal/strconv.uint64pow10" .u64 Lib.pow10Tab) (hb : Below w.heap.size w w') : Lib.TabIs Tryz.prog w' "internal/strconv.uint64pow10" .u64 Lib.pow10Tab := by
  unfold Lib.TabIs World.var? at *
  cases hg : (Tryz.prog).globalNamed "internal/strconv.uint64pow10" with
  | none => simp [hg] at h
  | some g =>
    simp only [hg, Option.bind_some] at h ⊢
    have hlt : g < w.heap.size := by
      rcases Nat.lt_or_ge g w.heap.size with h' | h'
      · exact h'
      · rw [Array.getElem?_eq_none h'] at h; simp at h
    rw [hb.block g hlt]
    exact h
def RetV (v : Value) (w : World) (e : Ending) (w' : World) : Prop := e = .returned v ∧ Below w.heap.size w w'
end Go.Proofs.YtkjndkeboeieoaaGreatDoor

namespace Go.Proofs.YtkjndkeboeieoaaGreatDoor
open Go Go.RowKit

/-- what the texts' functions read of the library's variables -/
def TxtW (w : World) : Prop := Lib.TabIs Tryz.prog w "internal/strconv.uint64pow10" .u64 Lib.pow10Tab ∧ (∃ m, w.cell? ⟨3, 0, none⟩ = some (.int .i64 m)) ∧
  (∃ ev, w.cell? ⟨4, 0, none⟩ = some ev ∧ (ev = .nilIface ∨ ∃ te pe, ev = .iface te pe)) ∧ (∃ ev, w.cell? ⟨5, 0, none⟩ = some ev ∧ (ev = .nilIface ∨ ∃ te pe, ev = .iface te pe))
theorem TxtW.below {w w' : World} (h : TxtW w) (hb : Below w.heap.size w w') : TxtW w' :=
  ⟨tab_below h.1 hb, by obtain ⟨m, hm⟩ := h.2.1; exact ⟨m, keeps hb _ _ _ hm⟩, by obtain ⟨ev, hm, p⟩ := h.2.2.1; exact ⟨ev, keeps hb _ _ _ hm, p⟩, by obtain ⟨ev, hm, p⟩ := h.2.2.2; exact ⟨ev, keeps hb _ _ _ hm, p⟩⟩
theorem itoaL (n : Int) (w : World) (h0 : -9223372036854775808 ≤ n) (h1 : n ≤ 9223372036854775807) (ht : TxtW w) : Calls Tryz.prog 25 #[.int .i64 n] w (RetV (strV (Lib.itoa n)) w) :=
  (Tryz.strconv_Itoa n h0 h1 w ht.1).mono fun e w' ⟨he, k, os, hw⟩ => ⟨he, by rw [hw]; exact Lib.below_grow _ _ (Nat.le_refl _) _ _⟩
/-- what Atoi returns, and whether without an error -/
def atV (l : List UInt8) : Int := match Lib.atoiAll l with | .ok v => v | .range => Lib.atoiSat l | _ => 0
def atB (l : List UInt8) : Bool := match Lib.atoiAll l with | .ok _ => true | _ => false
theorem at_ok {l : List UInt8} {v : Int} (h : Lib.atoiAll l = .ok v) : atV l = v ∧ atB l = true := by simp [atV, atB, h]
theorem atV_bd (l : List UInt8) : -9223372036854775808 ≤ atV l ∧ atV l ≤ 9223372036854775807 := by
  unfold atV
  split
  · rename_i v h; exact Lib.atoiAll_bounds h
  · exact Lib.atoiSat_bounds l
  · omega
def AtPost (v : Int) (b : Bool) (w : World) (e : Ending) (w' : World) : Prop := (∃ ev, e = .returned (.tuple #[.int .i64 v, ev]) ∧ (b = true → ev = .nilIface) ∧ (b = false → ∃ te pe, ev = .iface te pe)) ∧ Below w.heap.size w w'
theorem atoiL (l : List UInt8) (w : World) (hl : l.length ≤ 281474976710656) (ht : TxtW w) : Calls Tryz.prog 87 #[strV l] w (AtPost (atV l) (atB l) w) := by
  have hs : (⟨l.toArray⟩ : ByteArray).size = l.length := by simp [ByteArray.size]
  have hd : (⟨l.toArray⟩ : ByteArray).data.toList = l := by simp
  cases h : Lib.atoiAll l with
  | ok v =>
    refine (Tryz.strconv_Atoi_ok ⟨l.toArray⟩ (by rw [hs]; omega) v (by rw [hd]; exact h) w).mono fun e w' ⟨he, hw⟩ => ?_
    refine ⟨⟨.nilIface, ?_, fun _ => rfl, fun h' => ?_⟩, ?_⟩
    · rw [he, (at_ok h).1]
    · rw [(at_ok h).2] at h'; cases h'
    · rcases hw with rfl | ⟨t, rfl⟩
      · exact Below.refl _ _
      · exact Lib.bytesWorld_below _ _ _
  | range =>
    obtain ⟨ev, hv, hev⟩ := ht.2.2.2
    refine (Tryz.strconv_Atoi_range ⟨l.toArray⟩ (by rw [hs]; omega) (by rw [hd]; exact h) ev w hv hev).mono fun e w' ⟨N, he, _, _, hb⟩ => ?_
    exact ⟨⟨_, by rw [he, hd, show atV l = Lib.atoiSat l by simp [atV, h]], fun h' => by simp [atB, h] at h', fun _ => ⟨_, _, rfl⟩⟩, hb⟩
  | _ =>
    obtain ⟨ev, hv, hev⟩ := ht.2.2.1
    refine (Tryz.strconv_Atoi_syntax ⟨l.toArray⟩ (by rw [hs]; omega) (by rw [hd, h] <;> decide +kernel) ev w hv hev).mono fun e w' ⟨N, he, _, _, hb⟩ => ?_
    exact ⟨⟨_, by rw [he, show atV l = 0 by simp [atV, h]], fun h' => by simp [atB, h] at h', fun _ => ⟨_, _, rfl⟩⟩, hb⟩
end Go.Proofs.YtkjndkeboeieoaaGreatDoor

namespace Go.Proofs.YtkjndkeboeieoaaGreatDoor
open Go Go.Lib

/-- the program's number -/
def nuB (l : List UInt8) : Bool := atB l && decide (l.length ≤ 9) && decide (itoa (atV l) = l) && decide (0 ≤ atV l)
/-- the reference's Number -/
def rnB (l : List UInt8) : Bool := decide (1 ≤ l.length) && decide (l.length ≤ 9) && !(decide (1 < l.length) && decide (l.head? = some 48)) && l.all fun c => decide (48 ≤ c.toNat ∧ c.toNat ≤ 57)
theorem all_dg {l : List UInt8} : (l.all fun c => decide (48 ≤ c.toNat ∧ c.toNat ≤ 57)) = true ↔ ∀ c ∈ l, isDg c := by
  simp only [List.all_eq_true, decide_eq_true_eq]
  exact Iff.rfl
theorem head_48 (l : List UInt8) : l.head? = some 48 ↔ l.head?.map UInt8.toNat = some 48 := by
  cases l with
  | nil => simp
  | cons c r =>
    simp only [List.head?_cons, Option.map_some, Option.some.injEq]
    exact ⟨fun h => by rw [h]; rfl, fun h => UInt8.toNat_inj.1 (by rw [h]; rfl)⟩
theorem rn_facts {l : List UInt8} (h : rnB l = true) : (∀ c ∈ l, isDg c) ∧ l ≠ [] ∧ l.length ≤ 9 ∧ (1 < l.length → l.head?.map UInt8.toNat ≠ some 48) := by
  unfold rnB at h
  simp only [Bool.and_eq_true, decide_eq_true_eq, Bool.not_eq_true', Bool.and_eq_false_iff, decide_eq_false_iff_not] at h
  obtain ⟨⟨⟨h1, h2⟩, h3⟩, h4⟩ := h
  refine ⟨all_dg.1 h4, fun e => by rw [e] at h1; simp at h1, h2, fun h5 e => ?_⟩
  rcases h3 with h3 | h3
  · exact h3 h5
  · exact h3 ((head_48 l).2 e)
theorem rn_val {l : List UInt8} (h : rnB l = true) : valL 0 l < 1000000000 := by
  obtain ⟨h1, _, h3, _⟩ := rn_facts h
  have h4 := valL_lt l h1 0
  have h5 : 10 ^ l.length ≤ 10 ^ 9 := Nat.pow_le_pow_right (by decide) h3
  have : (10 : Nat) ^ 9 = 1000000000 := by decide
  omega
theorem num_same (l : List UInt8) : nuB l = rnB l ∧ (rnB l = true → atV l = (valL 0 l : Nat)) := by
  have back : rnB l = true → nuB l = true ∧ atV l = (valL 0 l : Nat) := fun h => by
    obtain ⟨h1, h2, h3, h4⟩ := rn_facts h
    have hv := rn_val h
    obtain ⟨a1, a2⟩ := at_ok (atoi_digits l h1 h2 (by omega))
    refine ⟨?_, a1⟩
    unfold nuB
    rw [a2, a1, itoa_nat, dec_valL l h1 h2 h4]
    simp [h3]
  refine ⟨Bool.eq_iff_iff.2 ⟨fun h => ?_, fun h => (back h).1⟩, fun h => (back h).2⟩
  unfold nuB at h
  simp only [Bool.and_eq_true, decide_eq_true_eq] at h
  obtain ⟨⟨⟨_, h2⟩, h3⟩, h4⟩ := h
  have e : l = decDigits (atV l).toNat := by rw [← itoa_pos h4]; exact h3.symm
  have hd : ∀ c ∈ l, isDg c := by rw [e]; exact dec_dg _
  have hn : l ≠ [] := by rw [e]; exact dec_ne _
  have hz : 1 < l.length → l.head?.map UInt8.toNat ≠ some 48 := fun h => by
    rw [e] at h ⊢
    exact dec_head (dec_len1 h)
  unfold rnB
  simp only [Bool.and_eq_true, decide_eq_true_eq, Bool.not_eq_true', Bool.and_eq_false_iff, decide_eq_false_iff_not]
  refine ⟨⟨⟨List.length_pos_iff.2 hn, h2⟩, ?_⟩, all_dg.2 hd⟩
  by_cases h5 : 1 < l.length
  · exact .inr fun h6 => hz h5 ((head_48 l).1 h6)
  · exact .inl h5
end Go.Proofs.YtkjndkeboeieoaaGreatDoor

namespace Go.Proofs.YtkjndkeboeieoaaGreatDoor
open Go.Lib

/-- the parts of a text between bytes c -/
def pts (c : UInt8) : List UInt8 → List (List UInt8)
  | [] => [[]]
  | b :: r => if b = c then [] :: pts c r else match pts c r with | [] => [[b]] | h :: t => (b :: h) :: t
theorem pts_ne (c : UInt8) : ∀ l, pts c l ≠ []
  | [] => by simp [pts]
  | b :: r => by
    rw [pts]
    split
    · simp
    · split <;> simp
theorem pts_no {c : UInt8} : ∀ {l : List UInt8}, c ∉ l → pts c l = [l]
  | [], _ => rfl
  | b :: r, h => by
    have h1 : ¬ b = c := fun e => h (e ▸ List.mem_cons_self ..)
    rw [pts, if_neg h1, pts_no (fun h' => h (List.mem_cons_of_mem _ h'))]
theorem pts_at {c : UInt8} : ∀ {a r : List UInt8}, c ∉ a → pts c (a ++ c :: r) = a :: pts c r
  | [], r, _ => by simp [pts]
  | b :: a, r, h => by
    have h1 : ¬ b = c := fun e => h (e ▸ List.mem_cons_self ..)
    rw [List.cons_append, pts, if_neg h1, pts_at (fun h' => h (List.mem_cons_of_mem _ h'))]
theorem split_at_first {c : UInt8} : ∀ {l : List UInt8}, c ∈ l → ∃ a r, l = a ++ c :: r ∧ c ∉ a
  | [], h => by simp at h
  | b :: l, h => by
    by_cases e : b = c
    · exact ⟨[], l, by rw [e]; rfl, by simp⟩
    · have h2 : c ∈ l := by
        rcases List.mem_cons.1 h with h | h
        · exact absurd h.symm e
        · exact h
      obtain ⟨a, r, rfl, ha⟩ := split_at_first h2
      exact ⟨b :: a, r, rfl, by simp [ha]; exact fun e' => e e'.symm⟩
theorem split_pts (c : UInt8) : ∀ (n : Nat) (l : List UInt8), l.length ≤ n → Lib.split l [c] = pts c l := by
  intro n
  induction n with
  | zero =>
    intro l h
    have : l = [] := List.eq_nil_of_length_eq_zero (by omega)
    subst this
    unfold Lib.split
    rw [count_miss (index_no (by simp))]
    rfl
  | succ n ih =>
    intro l h
    by_cases hc : c ∈ l
    · obtain ⟨a, r, rfl, ha⟩ := split_at_first hc
      have hi : index (a ++ c :: r) [c] = (a.length : Int) := index_at (t := []) (r := r) ha
      have hd : (a ++ c :: r).drop (a.length + 1) = r := by simp [List.drop_append]
      unfold Lib.split
      have hcount := count_hit (s := a ++ c :: r) (sub := [c]) (i := a.length) (by simp) hi
      rw [show a.length + [c].length = a.length + 1 from rfl, hd] at hcount
      rw [hcount, Nat.add_comm, splitK, if_neg (by rw [hi]; simp), hi]
      rw [pts_at ha]
      have e1 : (a ++ c :: r).take ((a.length : Int).toNat + 0) = a := by simp
      have e2 : (a ++ c :: r).drop ((a.length : Int).toNat + [c].length) = r := by
        show (a ++ c :: r).drop (a.length + 1) = r
        exact hd
      rw [e1, e2]
      have := ih r (by simp at h; omega)
      unfold Lib.split at this
      rw [this]
    · rw [pts_no hc]
      unfold Lib.split
      rw [count_miss (index_no hc)]
      rfl
end Go.Proofs.YtkjndkeboeieoaaGreatDoor
