/- Parts of one proof, joined: slices.Clone at integers; what Scale holds: a table in the making, row by row. The program's Scale (layer 19) of a valid table, by numbers from 1 to a million: the table, or the error; nothing that was there is turned. The reference's digits and Format (sewershedref01) without a point: the decimal text of an integer from 0 on; nothing that was there is turned. The reference's line of a table (sewershedref19): what it returns; nothing that was there is turned. (Printed by gen_itr.py.). The reference's Text of a valid table (sewershedref19): what it returns; nothing that was there is turned. (Printed by gen_itr.py.). The reference's Scale of a valid table (sewershedref19), by numbers from 1 to a million: the table, or the error; nothing that was there is turned. (Printed by gen_itr.py.). -/
import Derived.Deep.RegionHeldLaw
import Derived.Test.YtnhimgabcljahaaGreatDoorOwn3
import Derived.Test.YtnhimgabcljahaaGreatDoorItAwk
import Derived.Test.YtnhimgabcljahaaGreatDoorOwnQ
import Derived.Test.YtnhimgabcljahaaGreatDoorShelf3
import Derived.Deep.RegionWith
import Derived.Deep.DeepCutAuto
import Derived.Test.YtnhimgabcljahaaGreatDoorTxW0
import Derived.Test.YtnhimgabcljahaaGreatDoorItTxP
import Derived.Test.YtnhimgabcljahaaGreatDoorItSl
import Derived.Test.YtnhimgabcljahaaGreatDoorItTx
import Derived.Test.YtnhimgabcljahaaGreatDoorHeldW
namespace Go.Proofs.YtnhimgabcljahaaGreatDoor
open Go.RowKit

theorem int_info19 : (Tryz.prog.info? 3).map (fun i => (i.zero, i.size, i.bytes)) = some (some (.int .i64 0), 1, 8) := by kernel_rfl
theorem heap_new_at19 {W : World} {o : Obj} {n : Nat} (h : W.heap.size = n) : (W.alloc o).heap[n]? = some o := by subst h; exact heap_alloc_new W o
theorem IntSl.atg {w : World} {A : Option Addr} {l : List Int} (h : IntSl w A l) (h0 : 0 < l.length) : ∃ b off, A = some ⟨b, off, none⟩ ∧ b < w.heap.size ∧ ∀ i, i < l.length → w.cell? ⟨b, off + i, none⟩ = some (.int .i64 (l.getD i 0)) := by
  obtain ⟨b, off, e, hb, hat⟩ := h.2 h0
  refine ⟨b, off, e, hb, fun i hi => ?_⟩
  rw [hat i hi]; simp [hi]

theorem row_slice2 {w : World} {base : Nat} {e : TypeId} {size n : Nat} {v : Value} {xs : List Value} (h : w.ownsRow base e size v n xs) : ∃ A c, v = .slice A n c ∧ n ≤ c := by
  rcases h.2 with ⟨rfl, rfl⟩ | ⟨g, cp, cur, rfl, _, _, h, _⟩
  · exact ⟨_, _, rfl, Nat.le_refl _⟩
  · exact ⟨_, _, rfl, h⟩
/-- a copy in new memory -/
def ClonePost (l : List Int) (w : World) (e : Ending) (w' : World) : Prop := ∃ A c, e = .returned (.slice A l.length c) ∧ w'.ownsRow w.heap.size 3 1 (.slice A l.length c) l.length (l.map (Value.int .i64)) ∧ Below w.heap.size w w'
theorem clone_any (l : List Int) (A : Option Addr) (c : Nat) (w : World) (hl : IntSl w A l) (h0 : 0 < l.length) (hn : l.length ≤ 1000) :
    Calls Tryz.prog 25 #[.slice A l.length c] w (ClonePost l w) := by
  obtain ⟨b, off, rfl, hbl, hat⟩ := hl.atg h0
  refine (Tryz.slices_Clone_int b off l.length c l w (Nat.le_refl _) (by omega) hat).mono ?_
  rintro e w' ⟨v, rfl, h1, _, hb⟩
  rw [List.take_length] at h1
  obtain ⟨A, c, rfl, _⟩ := row_slice2 h1
  exact ⟨A, c, rfl, h1, hb⟩
theorem row_base {w : World} {B B' : Nat} {e : TypeId} {size n : Nat} {v : Value} {xs : List Value} (h : w.ownsRow B e size v n xs) (hB : B' ≤ B) : w.ownsRow B' e size v n xs :=
  ⟨h.1, by
    rcases h.2 with h | ⟨g, cap, cur, h1, h2, h3⟩
    · exact .inl h
    · exact .inr ⟨g, cap, cur, h1, Nat.le_trans hB h2, h3⟩⟩
theorem rows_ne2 {W : World} {B e1 e2 : Nat} {z1 z2 n1 n2 : Nat} {v1 v2 : Value} {x1 x2 : List Value} (h1 : W.ownsRow B e1 z1 v1 n1 x1) (h2 : W.ownsRow B e2 z2 v2 n2 x2) (hne : e1 ≠ e2) : v2.ownBlock = none ∨ v2.ownBlock ≠ v1.ownBlock := by
  rcases h2.2 with ⟨rfl, _⟩ | ⟨g, cap, cur, rfl, _, hh, _⟩
  · exact .inl rfl
  · refine .inr fun e => ?_
    rcases h1.2 with ⟨rfl, _⟩ | ⟨g', cap', cur', rfl, _, hh', _⟩
    · simp [Value.ownBlock] at e
    · simp only [Value.ownBlock, Option.some.injEq] at e
      subst e
      rw [hh] at hh'
      injection hh' with q
      injection q with _ q
      exact hne q.symm
/-- integers in memory of the call's own -/
abbrev IR (W : World) (B : Nat) (v : Value) (l : List Int) : Prop := W.ownsRow B 3 1 v l.length (l.map (Value.int .i64))
/-- the table in the making: rows, and what they hold -/
structure Mk (w W : World) (b8 : Nat) (D P V : Value) (ds ps : List Int) (cs rs : Array Value) (VL : List Value) (rows : List (List Int)) : Prop where
  own : Own w W [(b8, 25, #[D, P, V]), (w.heap.size + 1, 25, rs), (w.heap.size, 25, cs)]
  lt : w.heap.size + 1 < b8
  d : IR W w.heap.size D ds
  p : IR W w.heap.size P ps
  v : W.ownsRow w.heap.size 22 1 V rows.length VL
  r : ∀ i, i < rows.length → ∃ x, VL[i]? = some x ∧ IR W w.heap.size x (rows.getD i [])
section
variable {w W W' : World} {b8 : Nat} {D P V : Value} {ds ps : List Int} {cs rs : Array Value} {VL : List Value} {rows : List (List Int)}
theorem Mk.to (h : Mk w W b8 D P V ds ps cs rs VL rows) (hb : Below W.heap.size W W') : Mk w W' b8 D P V ds ps cs rs VL rows :=
  ⟨h.own.to hb, h.lt, row_below h.d hb, row_below h.p hb, row_below h.v hb, fun i hi => by
    obtain ⟨x, h1, h2⟩ := h.r i hi
    exact ⟨x, h1, row_below h2 hb⟩⟩
theorem Mk.start_a (X : Own w W [(w.heap.size + 1, 25, rs), (w.heap.size, 25, cs)]) (hD : IR W w.heap.size D ds) (hP : IR W w.heap.size P ps) (hl : w.heap.size + 1 < W.heap.size) :
    Mk w (W.alloc (.cells #[D, P, .slice none 0 0] 25)) W.heap.size D P (.slice none 0 0) ds ps cs rs [] [] :=
  ⟨X.alloc _ _, hl, hD.alloc _, hP.alloc _, World.ownsRow_nil _ _ _ _, fun i hi => by simp at hi⟩
theorem Mk.start_b {u0 u1 u2 : Value} (X : Own w W [(b8, 25, #[u0, u1, u2]), (w.heap.size + 1, 25, rs), (w.heap.size, 25, cs)]) (hD : IR W w.heap.size D ds) (hP : IR W w.heap.size P ps) (hl : w.heap.size + 1 < b8) :
    Mk w (((W.setCell ⟨b8, 0, none⟩ D).setCell ⟨b8, 1, none⟩ P).setCell ⟨b8, 2, none⟩ (.slice none 0 0)) b8 D P (.slice none 0 0) ds ps cs rs [] [] := by
  have B0 : Blk W b8 25 #[u0, u1, u2] := X.2 (b8, _, _) (by simp)
  have B1 := B0.set_ 0 D
  have B2 := B1.set_ 1 P
  have S : ∀ {y : Value} {l : List Int}, IR W w.heap.size y l → IR (((W.setCell ⟨b8, 0, none⟩ D).setCell ⟨b8, 1, none⟩ P).setCell ⟨b8, 2, none⟩ (.slice none 0 0)) w.heap.size y l := fun hy => row_set (row_set (row_set hy B0 (by decide) 0 D) B1 (by decide) 1 P) B2 (by decide) 2 _
  exact ⟨((X.set0 (by omega) (by simp; omega) 0 D).set0 (by omega) (by simp; omega) 1 P).set0 (by omega) (by simp; omega) 2 (.slice none 0 0), hl, S hD, S hP, World.ownsRow_nil _ _ _ _, fun i hi => by simp at hi⟩
/-- one row more: the rows' row has grown, and its slice is stored -/
theorem Mk.app {V' x : Value} {row : List Int} (h : Mk w W b8 D P V ds ps cs rs VL rows) (hx : IR W w.heap.size x row) (hown : W'.ownsRow w.heap.size 22 1 V' (rows.length + 1) (VL ++ [x])) (hg : W.grownBy W' V.ownBlock) :
    Mk w (W'.setCell ⟨b8, 2, none⟩ V') b8 D P V' ds ps cs rs (VL ++ [x]) (rows ++ [row]) := by
  have hl := h.v.1
  have K : ∀ {y : Value} {l : List Int}, IR W w.heap.size y l → IR W' w.heap.size y l := fun hy => hy.kept hg (rows_ne2 h.v hy (by decide))
  have Y := h.own.grown h.v hg (by simp)
  have B8 : Blk W' b8 25 #[D, P, V] := Y.2 (b8, _, _) (by simp)
  have S : ∀ {y : Value} {l : List Int}, IR W' w.heap.size y l → IR (W'.setCell ⟨b8, 2, none⟩ V') w.heap.size y l := fun hy => row_set hy B8 (by decide) 2 V'
  refine ⟨Y.set0 (by have := h.lt; omega) (by have := h.lt; simp; omega) 2 V', h.lt, S (K h.d), S (K h.p), by rw [List.length_append]; exact row_set hown B8 (by decide) 2 V', fun i hi => ?_⟩
  rw [List.length_append, List.length_singleton] at hi
  rcases Nat.lt_or_ge i rows.length with h1 | h1
  · obtain ⟨y, e1, e2⟩ := h.r i h1
    refine ⟨y, by rw [List.getElem?_append_left (by omega)]; exact e1, ?_⟩
    rw [show (rows ++ [row]).getD i [] = rows.getD i [] by simp [List.getD_eq_getElem?_getD, List.getElem?_append_left h1]]
    exact S (K e2)
  · have e : i = rows.length := by omega
    subst e
    refine ⟨x, by rw [List.getElem?_append_right (by omega)]; simp [show rows.length - VL.length = 0 by omega], ?_⟩
    rw [show (rows ++ [row]).getD rows.length [] = row by simp [List.getD_eq_getElem?_getD]]
    exact S (K hx)
/-- a store into the result's box -/
theorem Mk.res (h : Mk w W b8 D P V ds ps cs rs VL rows) (i : Nat) (u : Value) : Mk w (W.setCell ⟨w.heap.size + 1, i, none⟩ u) b8 D P V ds ps cs (rs.setIfInBounds i u) VL rows := by
  have B : Blk W (w.heap.size + 1) 25 rs := h.own.2 (w.heap.size + 1, _, _) (by simp)
  have S : ∀ {y : Value} {l : List Int}, IR W w.heap.size y l → IR (W.setCell ⟨w.heap.size + 1, i, none⟩ u) w.heap.size y l := fun hy => row_set hy B (by decide) i u
  refine ⟨(h.own.swap.set0 (by omega) (by have := h.lt; simp; omega) i u).swap, h.lt, S h.d, S h.p, row_set h.v B (by decide) i u, fun j hj => ?_⟩
  obtain ⟨x, e1, e2⟩ := h.r j hj
  exact ⟨x, e1, S e2⟩
/-- integers in 64 bits -/
def I64L (l : List Int) : Prop := l.length ≤ 9223372036854775807 ∧ ∀ i (h : i < l.length), -9223372036854775808 ≤ l[i] ∧ l[i] ≤ 9223372036854775807
theorem IR.sl {W : World} {B : Nat} {v : Value} {l : List Int} (h : IR W B v l) (hl : I64L l) : ∃ A c, v = .slice A l.length c ∧ IntSl W A l ∧ l.length ≤ c := by
  obtain ⟨A, c, e, hs⟩ := IntSl.of_row h hl.1 hl.2
  obtain ⟨A', c', e', hc⟩ := row_slice2 h
  rw [e] at e'
  injection e' with e1 e2 e3
  exact ⟨A, c, e, hs, by omega⟩
/-- the table is made: it lies in memory -/
theorem Mk.tab (h : Mk w W b8 D P V ds ps cs rs VL rows) (hd : I64L ds) (hp : I64L ps) (hr : ∀ i, i < rows.length → I64L (rows.getD i [])) (hn : rows.length ≤ maxLen) :
    ∃ a : TabA, D = .slice a.A1 ds.length a.c1 ∧ P = .slice a.A2 ps.length a.c2 ∧ V = .slice a.A3 rows.length a.c3 ∧ TabSl W ⟨ds, ps, rows⟩ a := by
  obtain ⟨A1, c1, e1, s1, l1⟩ := h.d.sl hd
  obtain ⟨A2, c2, e2, s2, l2⟩ := h.p.sl hp
  obtain ⟨A3, c3, e3, l3⟩ := row_slice2 h.v
  refine ⟨⟨A1, A2, A3, c1, c2, c3⟩, e1, e2, e3, s1, s2, ⟨hn, fun h0 => ?_⟩, l1, l2, l3⟩
  rcases h.v.2 with ⟨_, e0⟩ | ⟨g, cap, cur, ev, hg, hcell, hnc, _, hsz, htake⟩
  · have : rows.length = 0 := e0
    exact absurd h0 (by show ¬ 0 < rows.length; omega)
  · rw [e3] at ev
    injection ev with ea _ _
    refine ⟨g, 0, ea, (Array.getElem?_eq_some_iff.1 hcell).1, fun i hi => ?_⟩
    obtain ⟨x, hx1, hx2⟩ := h.r i hi
    obtain ⟨R, c, ex, sx, lx⟩ := hx2.sl (hr i hi)
    refine ⟨R, c, ?_, sx, lx⟩
    have hv := h.v
    rw [e3, ea] at hv
    have q := hv.cells (g := g) rfl i x hx1
    have ea : (⟨g, 0, none⟩ : Addr).add i = ⟨g, 0 + i, none⟩ := by unfold Addr.add; split <;> simp_all
    rw [ea, ex] at q
    exact q
end
end Go.Proofs.YtnhimgabcljahaaGreatDoor

namespace Go.Proofs.YtnhimgabcljahaaGreatDoor
open Go.RowKit

def scD (num den d : Int) : Int := d * num / den
def scT (T : Tab) (num den : Int) : Tab := ⟨T.ds, T.ps, T.rows.map fun r => r.map (scD num den)⟩
def scB (T : Tab) (num den : Int) : Bool := T.rows.any fun r => r.any fun d => decide (4194304 < scD num den d)
def ScPost (T : Tab) (num den : Int) (w : World) (e : Ending) (w' : World) : Prop := Below w.heap.size w w' ∧
  ((scB T num den = false ∧ ∃ a : TabA, e = .returned (.tuple #[(scT T num den).val a, .int .i64 0]) ∧ TabSl w' (scT T num den) a) ∨ (scB T num den = true ∧ e = .returned (.tuple #[.agg #[.slice none 0 0, .slice none 0 0, .slice none 0 0], .int .i64 5])))
theorem scB_yes {T : Tab} {num den : Int} {i k : Nat} (hi : i < T.rows.length) (hk : k < (T.rows.getD i []).length) (h : 4194304 < scD num den ((T.rows.getD i []).getD k 0)) : scB T num den = true := by
  unfold scB
  rw [List.any_eq_true]
  refine ⟨T.rows.getD i [], by simp [hi], ?_⟩
  rw [List.any_eq_true]
  generalize T.rows.getD i [] = r at *
  have e : r.getD k 0 = r[k] := by simp [List.getD_eq_getElem?_getD, List.getElem?_eq_getElem hk]
  rw [e] at h
  exact ⟨r[k], List.getElem_mem hk, decide_eq_true h⟩
theorem scB_no {T : Tab} {num den : Int} (h : ∀ i, i < T.rows.length → ∀ k, k < (T.rows.getD i []).length → ¬ 4194304 < scD num den ((T.rows.getD i []).getD k 0)) : scB T num den = false := by
  rcases Bool.eq_false_or_eq_true (scB T num den) with q | q
  · exfalso
    unfold scB at q
    rw [List.any_eq_true] at q
    obtain ⟨r, hr, hq⟩ := q
    rw [List.any_eq_true] at hq
    obtain ⟨d, hd, hq⟩ := hq
    obtain ⟨i, hi, rfl⟩ := List.mem_iff_getElem.1 hr
    obtain ⟨k, hk, rfl⟩ := List.mem_iff_getElem.1 hd
    have e1 : T.rows.getD i [] = T.rows[i] := by simp [hi]
    refine h i hi k (by rw [e1]; exact hk) ?_
    rw [e1]
    simpa [List.getD_eq_getElem?_getD, List.getElem?_eq_getElem hk] using hq
  · exact q
theorem scD_bd {num den d : Int} (hn : (1 ≤ num ∧ num ≤ 1000000) ∧ 1 ≤ den ∧ den ≤ 1000000) (hd : 0 ≤ d ∧ d ≤ 4194304) : 0 ≤ scD num den d ∧ scD num den d ≤ 4194304 * 1000000 := by
  have p0 : 0 ≤ d * num := Int.mul_nonneg hd.1 (by omega)
  have p1 : d * num ≤ 4194304 * 1000000 := Int.mul_le_mul hd.2 (by omega) (by omega) (by omega)
  have q0 : 0 ≤ d * num / den := Int.ediv_nonneg p0 (by omega)
  have q1 : d * num / den ≤ d * num := Int.ediv_le_self _ p0
  unfold scD; omega
theorem sc_row {T : Tab} {num den : Int} {i : Nat} (hi : i < T.rows.length) : (T.rows.map fun r => r.map (scD num den)).getD i [] = (T.rows.getD i []).map (scD num den) := by simp [hi]
theorem sc_i64 {T : Tab} {num den : Int} (v : VT T) (hn : (1 ≤ num ∧ num ≤ 1000000) ∧ 1 ≤ den ∧ den ≤ 1000000) : ∀ i, i < (T.rows.map fun r => r.map (scD num den)).length → I64L ((T.rows.map fun r => r.map (scD num den)).getD i []) := fun i hi => by
  rw [List.length_map] at hi
  rw [sc_row hi]
  have rw' := v.rw i (by have := v.rl; omega)
  have d2 := v.d2
  have cB := fun k (hk : k < T.ds.length) => v.cB i k (by have := v.rl; omega) hk
  unfold Tab.cell at cB
  generalize T.rows.getD i [] = r at *
  refine ⟨by rw [List.length_map]; omega, fun k hk => ?_⟩
  rw [List.length_map] at hk
  rw [List.getElem_map]
  have b := cB k (by omega)
  have e : r.getD k 0 = r[k] := by simp [List.getD_eq_getElem?_getD, List.getElem?_eq_getElem hk]
  rw [e] at b
  have := scD_bd hn b
  omega
theorem ints_info : (Tryz.prog.info? 22).map (fun i => (i.zero, i.size, i.bytes)) = some (some (.slice none 0 0), 1, 24) := by kernel_rfl
set_option maxRecDepth 100000 in
set_option maxHeartbeats 8000000 in
theorem scale_any (T : Tab) (a : TabA) (num den : Int) (w : World) (ht : TabSl w T a) (h1 : vT T = true) (hn : 1 ≤ num ∧ num ≤ 1000000) (hd : 1 ≤ den ∧ den ≤ 1000000) :
    Calls Tryz.prog 9 #[T.val a, .int .i64 num, .int .i64 den] w (ScPost T num den w) := by
  obtain ⟨A1, A2, A3, k1, k2, k3⟩ := a
  have v := of_vT h1
  have HTP := hide ht.parts
  obtain ⟨rb, ro, rfl, hrb, hrow⟩ := HTP.out.2.2.2 (by rw [v.rl]; exact v.p1)
  have HROW := hide hrow
  clear hrow
  have X := ((Own.start w).alloc #[.slice A1 T.ds.length k1, .slice A2 T.ps.length k2, .slice (some ⟨rb, ro, none⟩) T.rows.length k3] 25).alloc #[.slice none 0 0, .slice none 0 0, .slice none 0 0] 25
  simp only [World.size_alloc] at X
  have HT := hide ht
  have VT' := hide v
  have C1 := hide (fun W (h : IntSl W A1 T.ds) => clone_any T.ds A1 k1 W h v.d1 (by have := v.d2; omega))
  have C2 := hide (fun W (h : IntSl W A2 T.ps) => clone_any T.ps A2 k2 W h v.p1 (by have := v.p2; omega))
  have NN := hide (And.intro hn hd)
  have m1 : ¬ num < 1 := by omega
  have m2 : ¬ 1000000 < num := by omega
  have m3 : ¬ den < 1 := by omega
  have m4 : ¬ 1000000 < den := by omega
  clear ht v hn hd
  have hr := X.r2
  go_enter Tryz.func9, Tryz.ntmps9
  go_wp2_with fail
  refine (tvalid_any T ⟨A1, A2, some ⟨rb, ro, none⟩, k1, k2, k3⟩ _ (HT.out.below X.1)).mono ?_
  rintro e w1 ⟨rfl, hb⟩
  rw [h1]
  replace X := X.to hb
  clear hb hr
  have hr := X.r2
  have HX := hide X
  clear X
  go_wp2
  go_cut [8] (fun v8 wx => ∃ (b8 : Nat) (D P : Value), v8 = .pointer (some ⟨b8, 0, none⟩) ∧ Mk w wx b8 D P (.slice none 0 0) T.ds T.ps #[.slice A1 T.ds.length k1, .slice A2 T.ps.length k2, .slice (some ⟨rb, ro, none⟩) T.rows.length k3] #[.slice none 0 0, .slice none 0 0, .slice none 0 0] [] [])
  case first =>
    have hz1 := HX.out.r2.1.2.2
    have nz1 : ¬ w1.heap.size = w.heap.size := by omega
    have nz1' : ¬ w.heap.size = w1.heap.size := by omega
    have hr := HX.out.r2
    go_region_held3 (fun w' => w'.cell? ⟨w.heap.size, 0, none⟩ = some (.slice A1 T.ds.length k1) ∧ w'.cell? ⟨w.heap.size, 1, none⟩ = some (.slice A2 T.ps.length k2)) (go_keep) (first
      | (go_at_call 25; (first | (refine (C1.out _ (HTP.out.1.below HX.out.drew.1)).mono ?_; rintro e w2 ⟨aD, cD, rfl, hD, hb⟩; have HD := hide (row_base hD HX.out.drew.1.size); replace HX := hide (HX.out.drew.to hb)) | (refine (C1.out _ (HTP.out.1.below (HX.out.drew.alloc #[.slice none 0 0, .slice none 0 0, .slice none 0 0] 25).1)).mono ?_; rintro e w2 ⟨aD, cD, rfl, hD, hb⟩; have HD := hide (row_base hD (HX.out.drew.alloc #[.slice none 0 0, .slice none 0 0, .slice none 0 0] 25).1.size); replace HX : Hid (Own w w2 [(w1.heap.size, 25, #[.slice none 0 0, .slice none 0 0, .slice none 0 0]), (w.heap.size + 1, 25, #[.slice none 0 0, .slice none 0 0, .slice none 0 0]), (w.heap.size, 25, #[.slice A1 T.ds.length k1, .slice A2 T.ps.length k2, .slice (some ⟨rb, ro, none⟩) T.rows.length k3])]) := hide ((HX.out.drew.alloc #[.slice none 0 0, .slice none 0 0, .slice none 0 0] 25).to hb))); (first | (have hr := HX.out.r3; have q2 : w.heap.size + 1 < w2.heap.size := hr.2.1.2.2) | (have hr := HX.out.r2; have q2 : w.heap.size + 1 < w2.heap.size := hr.1.2.2)); have nz2 : ¬ w2.heap.size = w.heap.size := (by omega); have nz2' : ¬ w.heap.size = w2.heap.size := (by omega); clear hb hD)
      | (go_at_call 25; (first | (refine (C2.out _ (HTP.out.2.1.below HX.out.1)).mono ?_; rintro e w2 ⟨aP, cP, rfl, hP, hb⟩; have HP := hide (row_base hP HX.out.1.size); replace HX := hide (HX.out.to hb)) | (refine (C2.out _ (HTP.out.2.1.below (HX.out.alloc #[.slice none 0 0, .slice none 0 0, .slice none 0 0] 25).1)).mono ?_; rintro e w2 ⟨aP, cP, rfl, hP, hb⟩; have HP := hide (row_base hP (HX.out.alloc #[.slice none 0 0, .slice none 0 0, .slice none 0 0] 25).1.size); replace HX := hide ((HX.out.alloc #[.slice none 0 0, .slice none 0 0, .slice none 0 0] 25).to hb))); (first | (replace HD := hide (row_below HD.out hb)) | (replace HD := hide (row_below (HD.out.alloc (.cells #[.slice none 0 0, .slice none 0 0, .slice none 0 0] 25)) hb))); (first | (have hr := HX.out.r3) | (have hr := HX.out.r2)); clear hb hP))
    all_goals go_wp2_with fail
    all_goals go_meet
    all_goals exact ⟨_, _, _, rfl, by first | exact Mk.start_a HX.out HD.out HP.out (by omega) | exact Mk.start_b HX.out HD.out HP.out (by omega)⟩
  case rest =>
    clear hr HX C1 C2 HTP
    obtain ⟨b8, D, P, rfl, M0⟩ := hcut
    obtain ⟨i0, hi0, hz0, hz1, hz2⟩ := info_parts int_info19
    obtain ⟨j0, hj0, hy0, hy1, hy2⟩ := info_parts ints_info
    have hr := M0.own.r3
    have HM := hide M0
    clear M0
    go_wp2
    clear hr
    go_loopw [46] (fun v46 wr => ∃ (k : Nat) (V : Value) (VL : List Value), k ≤ T.rows.length ∧ v46 = .int .i64 (k : Int) ∧
      Mk w wr b8 D P V T.ds T.ps #[.slice A1 T.ds.length k1, .slice A2 T.ps.length k2, .slice (some ⟨rb, ro, none⟩) T.rows.length k3] #[.slice none 0 0, .slice none 0 0, .slice none 0 0] VL ((T.rows.take k).map fun r => r.map (scD num den)) ∧ Hid (∀ i, i < k → ∀ m, m < (T.rows.getD i []).length → ¬ 4194304 < scD num den ((T.rows.getD i []).getD m 0))) (fun v46 _ => T.rows.length - (intOf v46).toNat)
    case atStart => exact ⟨0, _, _, Nat.zero_le _, rfl, by simpa using HM.out, hide (fun _ h => by omega)⟩
    case round =>
      obtain ⟨k, V, VL, hk, rfl, M, hno⟩ := hrel
      clear HM
      by_cases hlt : k < T.rows.length
      · obtain ⟨R, c, q, hR, hRc⟩ := HROW.out k hlt
        have c0 := (M.own.1.cell (p := ⟨rb, ro + k, none⟩) hrb).trans q
        have rwk := VT'.out.rw k (by have := VT'.out.rl; omega)
        have cB := hide (fun m (hm : m < (T.rows.getD k []).length) => VT'.out.cB k m (by have := VT'.out.rl; omega) (by omega))
        have BIG := hide (fun m hm h => @scB_yes T num den k m hlt hm h)
        have d1 := VT'.out.d1
        have d2 := VT'.out.d2
        have rowE : (T.rows.take (k + 1)).map (fun r => r.map (scD num den)) = ((T.rows.take k).map fun r => r.map (scD num den)) ++ [(T.rows.getD k []).map (scD num den)] := by
          rw [List.take_succ_eq_append_getElem hlt, List.map_append]; simp [hlt]
        have lenE : ((T.rows.take k).map fun r => r.map (scD num den)).length = k := by simp; omega
        have ROWE := hide (And.intro rowE lenE)
        have NOE := hide (fun (h : ∀ m, m < (T.rows.getD k []).length → ¬ 4194304 < scD num den ((T.rows.getD k []).getD m 0)) i (hi : i < k + 1) => (by
          by_cases e : i = k
          · subst e; exact h
          · exact hno.out i (by omega) : ∀ m, m < (T.rows.getD i []).length → ¬ 4194304 < scD num den ((T.rows.getD i []).getD m 0)))
        obtain ⟨b2, o2, rfl, hb2, hat2⟩ := hR.atg (by omega)
        have HAT := hide (fun m (hm : m < (T.rows.getD k []).length) => (M.own.1.cell (p := ⟨b2, o2 + m, none⟩) hb2).trans (hat2 m hm))
        have hb2' : b2 < wr.heap.size := by have := M.own.1.size; omega
        have HM := hide M
        have hr := M.own.r3
        clear q hR hRc hat2 rowE lenE M hno
        have cB' : Hid (∀ m, m < (T.rows.getD k []).length → 0 ≤ (T.rows.getD k []).getD m 0 ∧ (T.rows.getD k []).getD m 0 ≤ 4194304) := hide (fun m hm => cB.out m hm)
        clear cB
        generalize T.rows.getD k [] = row at *
        have hrn : row.length ≤ 100 := by omega
        clear rwk
        obtain ⟨W0, e0⟩ : ∃ W0, W0 = wr := ⟨_, rfl⟩
        subst e0
        go_wp2
        clear hr c0
        go_loopw [11, 52] (fun v11 v52 wi => ∃ m : Nat, m ≤ row.length ∧ v52 = .int .i64 (m : Int) ∧ Below W0.heap.size W0 wi ∧ wi.ownsRow W0.heap.size 3 1 v11 m (((row.take m).map (scD num den)).map (Value.int .i64)) ∧
          Hid (∀ i, i < m → ¬ 4194304 < scD num den (row.getD i 0))) (fun _ v52 _ => row.length - (intOf v52).toNat)
        case atStart => exact ⟨0, Nat.zero_le _, rfl, Below.refl _ _, by simpa using World.ownsRow_nil _ _ _ _, hide (fun _ h => by omega)⟩
        case round =>
          obtain ⟨m, hm, rfl, hb, hrow, hnob⟩ := hrel
          by_cases hml : m < row.length
          · have c1 := (hb.cell (p := ⟨b2, o2 + m, none⟩) hb2').trans (HAT.out m hml)
            have bd := cB'.out m hml
            have TE : Hid (((row.take (m + 1)).map (scD num den)).map (Value.int .i64) = ((row.take m).map (scD num den)).map (Value.int .i64) ++ [.int .i64 (scD num den (row.getD m 0))]) := hide (by
              rw [List.take_succ_eq_append_getElem hml, List.map_append, List.map_append]; simp [hml])
            have BG := hide (fun h => BIG.out m hml h)
            have NB := hide (fun (h : ¬ 4194304 < scD num den (row.getD m 0)) i (hi : i < m + 1) => (by
              by_cases e : i = m
              · subst e; exact h
              · exact hnob.out i (by omega) : ¬ 4194304 < scD num den (row.getD i 0)))
            have nn := NN.out
            have p0 : 0 ≤ row.getD m 0 * num := Int.mul_nonneg bd.1 (by omega)
            have p1 : row.getD m 0 * num ≤ 4194304 * 1000000 := Int.mul_le_mul bd.2 (by omega) (by omega) (by omega)
            have q0 : 0 ≤ row.getD m 0 * num / den := Int.ediv_nonneg p0 (by omega)
            have q1 : row.getD m 0 * num / den ≤ row.getD m 0 * num := Int.ediv_le_self _ p0
            have s1 := IntWalk.i64_in (row.getD m 0 * num) (by omega)
            have s2 : (row.getD m 0 * num).tdiv den = scD num den (row.getD m 0) := Int.tdiv_eq_ediv_of_nonneg p0
            have s3 : IntKind.i64.wrap (scD num den (row.getD m 0)) = scD num den (row.getD m 0) := IntWalk.i64_in _ (by unfold scD; omega)
            have s4 := IntWalk.wrap64_in (row.getD m 0 * num) (by omega)
            have s5 : wrap64 (scD num den (row.getD m 0)) = scD num den (row.getD m 0) := IntWalk.wrap64_in _ (by unfold scD; omega)
            have s0 : (den == 0) = false := by simp; omega
            have s00 : ¬ den = 0 := by omega
            clear bd p0 p1 q0 q1 nn hnob
            generalize scD num den (row.getD m 0) = n at *
            generalize row.getD m 0 = d at *
            generalize ((row.take m).map (scD num den)).map (Value.int .i64) = RL at *
            have HB := hide hb
            have HR := hide hrow
            clear hb hrow
            by_cases big : 4194304 < n
            · have Y := HM.out.own.to HB.out
              have hr := Y.r3
              have E := hide (BG.out big)
              go_wp2
              exact bodyPost_ret (v := .tuple #[.agg #[.slice none 0 0, .slice none 0 0, .slice none 0 0], .int .i64 5]) (by simp [results, Tryz.results9, hr, go_sem]) rfl ⟨by have HX := Y.1; have hz := HX.size; go_grown, .inr ⟨E.out, rfl⟩⟩
            · have E := hide (NB.out big)
              go_wp2_with (at_builtin; refine wpList_append_own _ rfl _ _ 22 rfl W0.heap.size 3 i0 (.int .i64 0) 1 8 Tryz.underlying22 hi0 hz0 hz1 hz2 rfl (by decide) _ m RL rfl (HR.out.alloc (.cells #[.int .i64 n] 3)) ⟨wr.heap.size, 0, none⟩ 1 1 [.int .i64 n] rfl rfl (World.news_of_block (cs := #[.int .i64 n]) (t := 3) (fr := (0, 0)) (heap_new_at19 (by rfl))) (by simp [Value.oneCell']) (by unfold maxLen; omega) (by omega) (by have := HB.out.size; simp; omega) ?_; intro v4 w4 hown4 hgrow _)
              have B5 : Below W0.heap.size W0 w4 := (HB.out.alloc HB.out.size (.cells #[.int .i64 n] 3)).grown hgrow (by have := HB.out.size; simp; omega) (fun k hk => ((HR.out.alloc (.cells #[.int .i64 n] 3)).lt k hk).1)
              have B4 := hide (And.intro B5 hown4)
              clear B5 hown4 hgrow
              go_roundw
              case rel => exact ⟨m + 1, by omega, by go_num, B4.out.1, by rw [TE.out]; exact B4.out.2, E⟩
              case measure => simp [intOf]; omega
          · have e : m = row.length := by omega
            subst e
            rw [List.take_length] at hrow
            have HM2 := HM.out.to hb
            have hx1 := row_base hrow HM.out.own.1.size
            obtain ⟨R', c', rfl, _⟩ := row_slice2 hrow
            have hx0 : IR wr w.heap.size (.slice R' row.length c') (row.map (scD num den)) := by
              unfold IR
              rw [List.length_map]
              exact hx1
            have hv : wr.ownsRow w.heap.size 22 1 V k VL := by have := HM2.v; rwa [ROWE.out.2] at this
            have p2 := VT'.out.p2
            have rl := VT'.out.rl
            have HV := hide hv
            have HM3 := hide (HM2.to ((Below.refl _ wr).alloc (Nat.le_refl _) (.cells #[.slice R' row.length c'] 22)))
            have HX := hide (hx0.alloc (.cells #[.slice R' row.length c'] 22))
            have E := hide (NOE.out (fun i hi => by have := hnob.out i hi; omega))
            have hr := HM2.own.r3
            clear hrow hb hnob hv hx0 hx1 HM2
            have f1 : k + 1 ≤ maxLen := by unfold maxLen; omega
            have f2 : (k + 1) * 24 ≤ 140737488355328 := by omega
            have f3 : w.heap.size ≤ (wr.alloc (.cells #[.slice R' row.length c'] 22)).heap.size := by have := HM3.out.own.1.size; exact this
            have f4 : ∀ u ∈ [Value.slice R' row.length c'], u.oneCell' = true := by simp [Value.oneCell']
            have LE := hide ROWE.out.2
            clear p2 rl
            go_wp2_with (at_builtin; refine wpList_append_lies _ rfl _ _ 23 rfl w.heap.size 22 j0 (.slice none 0 0) 1 24 Tryz.underlying23 hj0 hy0 hy1 hy2 rfl (by decide) _ k VL rfl (HV.out.alloc (.cells #[.slice R' row.length c'] 22)) ⟨wr.heap.size, 0, none⟩ 1 1 [.slice R' row.length c'] rfl rfl (World.news_of_block (cs := #[.slice R' row.length c']) (t := 22) (fr := (0, 0)) (heap_new_at19 (by rfl))) f4 (by decide) f1 f2 f3 (wr.heap.size + 1) (by simp) ?_; intro gg cp w4 hown4 hgrow hat4 hlt4; have hr4 := (HM3.out.own.grown HM3.out.v hgrow (by simp)).r3)
            have M5 := hide (HM3.out.app HX.out (by rw [LE.out]; exact hown4) hgrow)
            clear hown4 hgrow
            go_roundw
            case rel => exact ⟨k + 1, _, _, by omega, by go_num, by rw [ROWE.out.1]; exact M5.out, hide (fun i hi m hm => by have := E.out i hi m hm; omega)⟩
            case measure => simp [intOf]; omega
      · have e : k = T.rows.length := by omega
        subst e
        rw [List.take_length] at M
        have M1 := ((M.res 0 D).res 1 P).res 2 V
        have NB := hide (scB_no (fun i hi m hm => hno.out i hi m hm))
        have p2 := VT'.out.p2
        have rl := VT'.out.rl
        obtain ⟨a', eD, eP, eV, ht'⟩ := M1.tab HT.out.1.1 HT.out.2.1.1 (sc_i64 VT'.out NN.out) (by rw [List.length_map]; unfold maxLen; omega)
        rw [List.length_map] at eV
        subst eD eP eV
        have HT' := hide ht'
        have Y := M.own
        have hr := Y.r3
        clear M M1 ht' hno rl p2
        go_wp2
        exact bodyPost_ret (v := .tuple #[.agg #[.slice a'.A1 T.ds.length a'.c1, .slice a'.A2 T.ps.length a'.c2, .slice a'.A3 T.rows.length a'.c3], .int .i64 0]) (by simp [results, Tryz.results9, hr, go_sem]) rfl ⟨by have HX := Y.1; have hz := HX.size; go_grown, .inl ⟨NB.out, a', by simp [scT], HT'.out⟩⟩
end Go.Proofs.YtnhimgabcljahaaGreatDoor

namespace Go.Proofs.YtnhimgabcljahaaGreatDoor
open Go Go.RowKit

def decN (k : Nat) : List UInt8 := if k = 0 then [] else Lib.decDigits k
/-- digits, at least some -/
def padN (least k : Nat) : List UInt8 := List.replicate (least - (decN k).length) 48 ++ decN k
theorem decN_step {k : Nat} (hk : k ≠ 0) : decN k = decN (k / 10) ++ [UInt8.ofNat (48 + k % 10)] := by
  unfold decN
  rw [if_neg hk]
  by_cases h : k < 10
  · rw [if_pos (by omega), dec_small h, Nat.mod_eq_of_lt h]; rfl
  · rw [if_neg (by omega), dec_big h]
theorem padN_step {least k : Nat} (h : 0 < k ∨ 0 < least) : padN least k = padN (least - 1) (k / 10) ++ [UInt8.ofNat (48 + k % 10)] := by
  unfold padN
  by_cases hk : k = 0
  · subst hk
    have hl : 0 < least := by omega
    obtain ⟨m, rfl⟩ : ∃ m, least = m + 1 := ⟨least - 1, by omega⟩
    show List.replicate (m + 1) (48 : UInt8) ++ [] = (List.replicate m 48 ++ []) ++ [48]
    rw [List.append_nil, List.append_nil, List.replicate_succ']
  · rw [decN_step hk, List.length_append, List.length_singleton, ← List.append_assoc]
    congr 3
    omega
theorem padN_end : padN 0 0 = [] := by simp [padN, decN]
theorem padN_one (k : Nat) : padN 1 k = Lib.decDigits k := by
  unfold padN decN
  by_cases h : k = 0
  · subst h; rw [if_pos rfl, dec_small (by decide)]; rfl
  · rw [if_neg h]
    have := List.length_pos_iff.2 (dec_ne k)
    rw [show 1 - (Lib.decDigits k).length = 0 by omega]; rfl
theorem padN_len (least k : Nat) : (padN least k).length = max least (decN k).length := by
  unfold padN; simp; omega
theorem byte_convF (d : Nat) (hd : d < 10) (W : World) : (convert 108 9 (.slice (some ⟨W.heap.size, 0, none⟩) 1 1)).run Tryz.prog (W.alloc (.cells #[.int .u8 (48 + (d : Int))] 5)) = .ok (strV [UInt8.ofNat (48 + d)]) (W.alloc (.cells #[.int .u8 (48 + (d : Int))] 5)) := by
  have h := run_convert_bytes_back (P := Tryz.prog) (W.alloc (.cells #[.int .u8 (48 + (d : Int))] 5)) 108 9 5 ⟨W.heap.size, 0, none⟩ 1 [UInt8.ofNat (48 + d)] Tryz.underlying108 Tryz.underlying5 Tryz.underlying9 (fun j hj => by
    obtain rfl : j = 0 := by simpa using hj
    have B := Blk.new W 5 #[.int .u8 (48 + (d : Int))]
    have c := B.cell 0
    show (W.alloc _).cell? ⟨W.heap.size, 0, none⟩ = _
    rw [c]
    show some (Value.int .u8 (48 + (d : Int))) = some (Value.int .u8 (((UInt8.ofNat (48 + d)).toNat : Nat) : Int))
    rw [dgN hd]
    rfl)
  exact h
theorem dec_len21 {n : Nat} (h : n ≤ 9223372036854775807) : (Lib.decDigits n).length ≤ 21 := by
  have := Lib.itoa_length_le (n : Int) (by omega) (by omega)
  rw [itoa_nat] at this
  exact this
set_option maxRecDepth 100000 in
set_option maxHeartbeats 2000000 in
theorem rdig_any (n least : Nat) (w : World) (h2 : n ≤ 9223372036854775807) (h3 : least ≤ 100) : Calls Tryz.prog 56 #[.int .i64 n, .int .i64 least] w (RetV (strV (padN least n)) w) := by
  have LD : (padN least n).length ≤ 200 := by
    rw [padN_len]
    have : (decN n).length ≤ 21 := by
      unfold decN; split
      · simp
      · exact dec_len21 h2
    omega
  have ST : Hid (padN least n = padN (least - ([] : List UInt8).length) n ++ []) := hide (by rw [List.append_nil]; rfl)
  have LD := LD
  generalize hD : padN least n = D at LD ⊢
  have ST2 : Hid (D = padN (least - ([] : List UInt8).length) n ++ []) := hide (hD.symm.trans ST.out)
  clear hD ST
  go_enter Tryz.func56, Tryz.ntmps56
  go_wp2
  go_loopw [0, 5] (fun v0 v5 wr => ∃ (out : List UInt8) (k : Nat), v5 = strV out ∧ v0 = .int .i64 k ∧ k ≤ 9223372036854775807 ∧ Hid (Below w.heap.size w wr) ∧ Hid (D = padN (least - out.length) k ++ out)) (fun v0 v5 _ => (intOf v0).toNat + (least - match v5 with | .string s => s.size | _ => 0))
  case atStart => exact ⟨[], n, rfl, rfl, h2, hide (Below.refl _ _), ST2⟩
  case round =>
    obtain ⟨out, k, rfl, rfl, k2, HB, HD⟩ := hrel
    have ol : out.length ≤ 200 := by have := congrArg List.length HD.out; rw [List.length_append] at this; omega
    have os : (⟨out.toArray⟩ : ByteArray).size = out.length := by simp [ByteArray.size]
    by_cases hk : 0 < k ∨ 0 < least - out.length
    · have ST2 := padN_step hk
      have dd : k % 10 < 10 := Nat.mod_lt _ (by decide)
      have CV := byte_convF (k % 10) dd wr
      have HD2 : Hid (D = padN (least - (out.length + 1)) (k / 10) ++ (UInt8.ofNat (48 + k % 10) :: out)) := hide (by rw [HD.out, ST2, List.append_assoc]; rfl)
      have HB2 := hide (fun o => HB.out.alloc HB.out.size o)
      have e1 : (k : Int).tmod 10 = ((k % 10 : Nat) : Int) := rfl
      have e2 : (k : Int).tdiv 10 = ((k / 10 : Nat) : Int) := rfl
      have q2 : k / 10 ≤ k := Nat.div_le_self _ _
      have q3 : 0 < k → k / 10 < k := fun h => Nat.div_lt_self h (by decide)
      have l1 : ¬ 9223372036854775807 < 1 + out.length := by omega
      clear HD ST2
      generalize k % 10 = d at *
      generalize k / 10 = q at *
      generalize UInt8.ofNat (48 + d) = B at *
      have os2 : (⟨(B :: out).toArray⟩ : ByteArray).size = out.length + 1 := by simp [ByteArray.size]
      have c1 : (⟨#[B]⟩ : ByteArray) ++ ⟨out.toArray⟩ = ⟨(B :: out).toArray⟩ := ba_append [B] out
      by_cases hk1 : 0 < k
      · have d1 : decide ((0 : Int) < (k : Int)) = true := decide_eq_true (by omega)
        have l2 : q < k := q3 hk1
        clear q3
        go_wp2
        go_roundw
        case rel => exact ⟨B :: out, q, rfl, rfl, by omega, hide (HB2.out _), by simpa using HD2⟩
        case measure => simp [intOf]; omega
      · have d1 : decide ((0 : Int) < (k : Int)) = false := decide_eq_false (by omega)
        have d2 : decide (out.length < least) = true := decide_eq_true (by omega)
        clear q3
        go_wp2
        go_roundw
        case rel => exact ⟨B :: out, q, rfl, rfl, by omega, hide (HB2.out _), by simpa using HD2⟩
        case measure => simp [intOf]; omega
    · have k0 : k = 0 := by omega
      subst k0
      have d1 : decide ((0 : Int) < ((0 : Nat) : Int)) = false := by decide
      have d2 : decide (out.length < least) = false := decide_eq_false (by omega)
      have E : Hid (D = out) := hide (by rw [HD.out, show least - out.length = 0 by omega, padN_end]; rfl)
      go_wp2
      go_ret
      exact ⟨by rw [E.out]; rfl, HB.out⟩
set_option maxRecDepth 100000 in
set_option maxHeartbeats 1000000 in
theorem rfmt_any (n : Nat) (w : World) (h2 : n ≤ 9223372036854775807) : Calls Tryz.prog 43 #[.int .i64 n, .int .i64 0] w (RetV (strV (Lib.itoa n)) w) := by
  have R := hide (rdig_any n 1 w h2 (by decide))
  have LD := dec_len21 h2
  have d1 : decide ((n : Int) < 0) = false := decide_eq_false (by omega)
  rw [padN_one] at R
  rw [itoa_nat]
  generalize Lib.decDigits n = D at *
  have c1 : (⟨#[]⟩ : ByteArray) ++ ⟨D.toArray⟩ = ⟨D.toArray⟩ := ba_append [] D
  have l1 : ¬ 9223372036854775807 < 0 + D.length := by omega
  have l2 : ¬ 9223372036854775807 < D.length := by omega
  go_enter Tryz.func43, Tryz.ntmps43
  go_wp2_with fail
  refine R.out.mono ?_
  rintro e w' ⟨rfl, hb⟩
  go_wp2
  go_ret
  exact ⟨rfl, hb⟩
end Go.Proofs.YtnhimgabcljahaaGreatDoor

namespace Go.Proofs.YtnhimgabcljahaaGreatDoor
open Go Go.RowKit

set_option maxRecDepth 100000 in
set_option maxHeartbeats 2000000 in
theorem rline19_any (wd : List UInt8) (l : List Int) (A : Option Addr) (cap : Nat) (w : World) (hl : IntSl w A l) (hn : ∀ n ∈ l, numR n) (hw : wd.length ≤ 100) (hs : l.length ≤ 1000) :
    Calls Tryz.prog 29 #[strV wd, .slice A l.length cap] w (RetV (strV (ln wd l ++ [10])) w) := by
  have H := hide hl
  have HN := hide hn
  have LL := hide (fun k => ln_len wd (l.take k) (fun n h => HN.out n (List.mem_of_mem_take h)))
  have T0 : Hid (wd = ln wd (l.take 0)) := hide (by simp [ln])
  clear hl hn
  go_enter Tryz.func29, Tryz.ntmps29
  go_wp2
  go_loopw [0, 5] (fun v0 v5 wr => ∃ k : Nat, k ≤ l.length ∧ v5 = .int .i64 k ∧ v0 = strV (ln wd (l.take k)) ∧ Hid (Below w.heap.size w wr)) (fun _ v _ => l.length - (intOf v).toNat)
  case atStart => exact ⟨0, Nat.zero_le _, rfl, by rw [← T0.out], hide (Below.refl _ _)⟩
  case round =>
    obtain ⟨k, hk, rfl, rfl, HB⟩ := hrel
    have zl := LL.out k
    rw [List.length_take] at zl
    by_cases hlt : k < l.length
    · have g1 : decide (k < l.length) = true := decide_eq_true hlt
      obtain ⟨b, off, rfl, hbl, hat⟩ := (H.out.below HB.out).2 (by omega)
      have c0 := hat k hlt
      have nr := HN.out l[k] (List.getElem_mem hlt)
      have il := itoa_len9 nr
      have NX : Hid (ln wd (l.take k) ++ 32 :: Lib.itoa l[k] = ln wd (l.take (k + 1))) := hide (by rw [List.take_succ_eq_append_getElem hlt, ln_append])
      obtain ⟨m, hm⟩ : ∃ m : Nat, l[k] = (m : Int) := ⟨l[k].toNat, by have := nr.1; omega⟩
      rw [hm] at c0 NX il nr
      obtain ⟨n1, n2⟩ := nr
      have zl2 : (ln wd (l.take k)).length ≤ 23000 := by omega
      clear hat zl hm
      have FM := hide (fun W => rfmt_any m W (by omega))
      generalize ln wd (l.take k) = z at *
      generalize Lib.itoa (m : Int) = it at *
      obtain ⟨z1, h1⟩ : ∃ z1, z ++ [32] = z1 := ⟨_, rfl⟩
      obtain ⟨z2, h2⟩ : ∃ z2, z1 ++ it = z2 := ⟨_, rfl⟩
      have d1 : (⟨z.toArray⟩ : ByteArray) ++ ⟨#[32]⟩ = ⟨z1.toArray⟩ := (ba_append z [32]).trans (by rw [h1])
      have d2 : (⟨z1.toArray⟩ : ByteArray) ++ ⟨it.toArray⟩ = ⟨z2.toArray⟩ := (ba_append z1 it).trans (by rw [h2])
      have e1 : z1.length = z.length + 1 := by rw [← h1]; simp
      have m1 : ¬ 9223372036854775807 < z.length + 1 := by omega
      have m2 : ¬ 9223372036854775807 < z1.length + it.length := by omega
      have NX2 : Hid (z2 = ln wd (l.take (k + 1))) := hide (by rw [← NX.out, ← h2, ← h1]; simp)
      clear NX h1 h2 e1
      go_wp2_with fail
      refine (FM.out _).mono ?_
      rintro e w4 ⟨rfl, hb⟩
      have HB4 := hide (below_via HB.out HB.out.size hb)
      clear hb c0
      go_wp2
      go_roundw
      case rel => exact ⟨k + 1, by omega, by go_num, by rw [← NX2.out], HB4⟩
      case measure => simp [intOf]; omega
    · obtain rfl : k = l.length := by omega
      have g1 : decide (l.length < l.length) = false := decide_eq_false (by omega)
      rw [List.take_length] at *
      generalize ln wd l = z at *
      obtain ⟨z1, h1⟩ : ∃ z1, z ++ [10] = z1 := ⟨_, rfl⟩
      have d1 : (⟨z.toArray⟩ : ByteArray) ++ ⟨#[10]⟩ = ⟨z1.toArray⟩ := (ba_append z [10]).trans (by rw [h1])
      have m1 : ¬ 9223372036854775807 < z.length + 1 := by omega
      have H1 := hide h1
      clear h1
      go_wp2
      go_ret
      exact ⟨by rw [H1.out]; rfl, HB.out⟩
end Go.Proofs.YtnhimgabcljahaaGreatDoor

namespace Go.Proofs.YtnhimgabcljahaaGreatDoor
open Go Go.RowKit

theorem int_infoT : (Tryz.prog.info? 3).map (fun i => (i.zero, i.size, i.bytes)) = some (some (.int .i64 0), 1, 8) := by kernel_rfl
theorem reads_int {W : World} {A : Option Addr} {l : List Int} (h : IntSl W A l) : Reads W W.heap.size 1 A l.length (l.map (Value.int .i64)) := ⟨by simp, fun h0 => by
  obtain ⟨b, off, e, hb, hat⟩ := h.2 h0
  refine ⟨_, e, hb, fun j u hu => ?_⟩
  rw [List.getElem?_map] at hu
  have e2 : (⟨b, off, none⟩ : Addr).add j = ⟨b, off + j, none⟩ := by unfold Addr.add; split <;> simp_all
  rw [e2]
  by_cases hj : j < l.length
  · rw [List.getElem?_eq_getElem hj] at hu
    injection hu with hu
    subst hu
    exact hat j hj
  · rw [List.getElem?_eq_none (by omega)] at hu
    cases hu⟩
theorem own_one (W : World) (u : Value) (t : TypeId) : (W.alloc (.cells #[u] t)).ownsRow W.heap.size t 1 (.slice (some ⟨W.heap.size, 0, none⟩) 1 1) 1 [u] :=
  ⟨rfl, .inr ⟨W.heap.size, 1, #[u], rfl, Nat.le_refl _, heap_alloc_new W _, Nat.le_refl _, by unfold maxLen; omega, rfl, rfl⟩⟩
set_option maxRecDepth 100000 in
set_option maxHeartbeats 4000000 in
theorem rtext19_any0 (T : Tab) (A1 A2 A3 : Option Addr) (c1 c2 c3 : Nat) (w : World) (ht : TabSl w T ⟨A1, A2, A3, c1, c2, c3⟩) (hv : vT T = true) :
    Calls Tryz.prog 12 #[.agg #[.slice A1 T.ds.length c1, .slice A2 T.ps.length c2, .slice A3 T.rows.length c3]] w (RetV (strV (txT T)) w) := by
  have X := (Own.start w).alloc #[.slice A1 T.ds.length c1, .slice A2 T.ps.length c2, .slice A3 T.rows.length c3] 25
  have H := hide ht
  clear ht
  obtain ⟨i0, hi0, hz0, hz1, hz2⟩ := info_parts int_infoT
  have v := of_vT hv
  have K0 := hide (txK_0 T)
  have KS := hide (fun k h1 h2 => txK_s (T := T) (k := k) h1 h2)
  have KE := hide (txK_end v)
  have KL := hide (fun k => txK_len v k)
  have vd1 := v.d1
  have vd2 := v.d2
  have vp2 := v.p2
  have vr1 : T.rows.length ≤ T.ps.length := by rw [v.rl]; exact Nat.le_refl _
  have vr2 : T.ps.length ≤ T.rows.length := by rw [v.rl]; exact Nat.le_refl _
  have RN := hide (rows_num v)
  have RW := hide v.rw
  clear hv v
  have H1 := hide (H.out.below X.1)
  have hr := X.r1
  have LD := hide (fun W h => rline19_any (wdA 0) T.ds A1 c1 W h (RN.out T.ds (by simp [rowsOf])).2.1 (by have := (wdA_no 0).2.2; omega) (by omega))
  rw [show strV (wdA 0) = .string ⟨#[100, 117, 114, 97, 116, 105, 111, 110, 115]⟩ from rfl] at LD
  go_enter Tryz.func12, Tryz.ntmps12
  go_wp2_with fail
  refine (LD.out _ H1.out.1).mono ?_
  rintro e w2 ⟨rfl, hb⟩
  replace X := X.to hb
  have H3 := hide (H1.out.below hb)
  clear hr hb H1
  have hr := X.r1
  have XH := hide X
  rw [← K0.out]
  clear X
  go_wp2
  clear hr
  go_loopw [3, 4] (fun v3 v4 wr => ∃ k : Nat, k ≤ T.ps.length ∧ v4 = .int .i64 k ∧ v3 = strV (txK T k) ∧ Hid (Own w wr [(w.heap.size, 25, #[.slice A1 T.ds.length c1, .slice A2 T.ps.length c2, .slice A3 T.rows.length c3])]) ∧ Hid (TabSl wr T ⟨A1, A2, A3, c1, c2, c3⟩)) (fun _ v _ => T.ps.length - (intOf v).toNat)
  case atStart => exact ⟨0, Nat.zero_le _, rfl, rfl, XH, H3⟩
  case round =>
    obtain ⟨k, hk, rfl, rfl, HO, HT⟩ := hrel
    have hr := HO.out.r1
    by_cases hk2 : k < T.ps.length
    · have g1 : decide (k < T.ps.length) = true := decide_eq_true hk2
      have hlt : k < T.rows.length := by omega
      obtain ⟨b, off, e3, hbl, hat⟩ := HT.out.2.2.1.2 (by omega)
      obtain ⟨R, c, c0, hR, hRc⟩ := hat k hlt
      obtain ⟨b2, off2, e2, hbl2, hat2⟩ := HT.out.2.1.2 (by omega)
      have d0 := hat2 k (by omega)
      rw [show T.ps[k] = T.ps.getD k 0 by simp [hk2]] at d0
      have hr1 : (T.rows.getD k []).length ≤ T.ds.length := by rw [RW.out k hk2]; exact Nat.le_refl _
      have rn := RN.out (T.ps.getD k 0 :: T.rows.getD k []) (by simp only [rowsOf, List.mem_cons]; right; rw [List.mem_iff_getElem]; exact ⟨k, by simp; omega, by simp [hlt, hk2]⟩)
      have KK := hide (KS.out k hlt hk2)
      have kl := KL.out k
      have LN : Hid (∀ W A cap, IntSl W A (T.ps.getD k 0 :: T.rows.getD k []) → Calls Tryz.prog 29 #[.string ⟨#[112, 101, 114, 105, 111, 100]⟩, .slice A ((T.rows.getD k []).length + 1) cap] W (RetV (strV (ln (wdA 1) (T.ps.getD k 0 :: T.rows.getD k []) ++ [10])) W)) :=
        hide (fun W A cap h => rline19_any (wdA 1) (T.ps.getD k 0 :: T.rows.getD k []) A cap W h rn.2.1 (by have := (wdA_no 1).2.2; omega) (by simp only [List.length_cons]; omega))
      have lnl := ln_len (wdA 1) (T.ps.getD k 0 :: T.rows.getD k []) rn.2.1
      have wl := (wdA_no 1).2.2
      rw [List.length_cons] at lnl
      have KC := hide (fun W (h : Below wr.heap.size wr W) => And.intro ((h.cell (p := ⟨w.heap.size, 1, none⟩) hr.2.2).trans (hr.1 1)) (And.intro ((h.cell (p := ⟨w.heap.size, 2, none⟩) hr.2.2).trans (hr.1 2)) (And.intro ((h.cell (p := ⟨b2, off2 + k, none⟩) hbl2).trans d0) ((h.cell (p := ⟨b, off + k, none⟩) hbl).trans c0))))
      have RD := hide (fun W (h : Below wr.heap.size wr W) => reads_int (hR.below h))
      have N64 : Hid (∀ i (h : i < (T.ps.getD k 0 :: T.rows.getD k []).length), -9223372036854775808 ≤ (T.ps.getD k 0 :: T.rows.getD k [])[i] ∧ (T.ps.getD k 0 :: T.rows.getD k [])[i] ≤ 9223372036854775807) := hide (fun i h => by
        have := rn.2.1 _ (List.getElem_mem h)
        unfold numR at this
        omega)
      have b0 : b2 < wr.heap.size := hbl2
      have b1 : w.heap.size < wr.heap.size := hr.2.2
      have b3 : b < wr.heap.size := hbl
      clear hat hat2 rn hR hRc
      subst e3 e2
      generalize T.ps.getD k 0 = p at *
      generalize T.rows.getD k [] = row at *
      have lnl2 : (ln (wdA 1) (p :: row) ++ [10]).length ≤ 9 + 22 * 101 + 1 := by simp only [List.length_append, List.length_singleton]; omega
      clear lnl wl
      generalize ln (wdA 1) (p :: row) ++ [10] = rl at *
      generalize txK T k = z at *
      have k1 : (⟨z.toArray⟩ : ByteArray) ++ ⟨rl.toArray⟩ = ⟨(z ++ rl).toArray⟩ := ba_append z rl
      have l2 : ¬ 9223372036854775807 < z.length + rl.length := by omega
      have OW := hide (own_one wr.drew (.int .i64 p) 3)
      have BWA := hide (((Below.refl wr.heap.size wr).drew).alloc (Nat.le_refl _) (.cells #[.int .i64 p] 3))
      have fr1 : 1 + row.length ≤ maxLen := by unfold maxLen; omega
      have fr2 : (1 + row.length) * 8 ≤ 140737488355328 := by omega
      have fr4 : ∀ u ∈ row.map (Value.int .i64), u.oneCell' = true := by intro u hu; obtain ⟨x, _, rfl⟩ := List.mem_map.1 hu; rfl
      have fr5 : (p :: row).length ≤ 9223372036854775807 := by simp; omega
      have fr6 : wr.drew.heap.size ≤ (wr.drew.alloc (.cells #[.int .i64 p] 3)).heap.size := by rw [World.size_alloc]; omega
      have RD1 := hide (RD.out _ BWA.out)
      obtain ⟨q1, q2, q3, q4⟩ := KC.out _ (Below.refl _ _)
      clear d0 c0
      go_wp2_with fail
      go_region_held3 (fun w' => w'.cell? ⟨w.heap.size, 1, none⟩ = some (.slice (some ⟨b2, off2, none⟩) T.ps.length c2) ∧ w'.cell? ⟨w.heap.size, 2, none⟩ = some (.slice (some ⟨b, off, none⟩) T.rows.length c3) ∧ w'.cell? ⟨b2, off2 + k, none⟩ = some (.int .i64 p) ∧ w'.cell? ⟨b, off + k, none⟩ = some (.slice R row.length c)) (go_keep)
        (first
          | (refine step_append_any (w := wr.drew.alloc (.cells #[.int .i64 p] 3)) (by rfl) _ _ _ (by rfl) wr.drew.heap.size 3 i0 _ 1 8 Tryz.underlying22 hi0 hz0 hz1 hz2 rfl (by omega) _ 1 [.int .i64 p] (by rfl) OW.out _ _ row.length _ (row.map (Value.int .i64)) (by rfl) RD1.out fr4 fr1 fr2 fr6 ?_; intro v4 w4 hown4 hgrow hor; have BW4 := BWA.out.grown hgrow BWA.out.size (fun j hj => (OW.out.lt j hj).1); obtain ⟨A4, c4, e4, hI⟩ := IntSl.of_row (l := p :: row) hown4 fr5 N64.out; subst e4; have hI := hide hI; obtain ⟨d1, d2, d3, d4⟩ := KC.out _ BW4; have B4 := hide BW4; clear hown4 hgrow hor BW4)
          | (go_at_call 29; ((with_reducible refine Calls.mono (LN.out _ _ _ hI.out) ?_); rintro e w7 ⟨rfl, hb7⟩); have B7 := hide (below_via B4.out B4.out.size hb7); obtain ⟨f1, f2, f3, f4⟩ := KC.out _ B7.out; clear hb7))
      have XO := hide (show Own w _ [(w.heap.size, 25, #[.slice A1 T.ds.length c1, .slice (some ⟨b2, off2, none⟩) T.ps.length c2, .slice (some ⟨b, off, none⟩) T.rows.length c3])] from HO.out.to B7.out)
      have XT := hide (HT.out.below B7.out)
      clear hr
      go_wp2
      go_roundw
      case rel => exact ⟨k + 1, by omega, by go_num, by rw [KK.out], XO, XT⟩
      case measure => simp [intOf]; omega
    · obtain rfl : k = T.ps.length := by omega
      have g1 : decide (T.ps.length < T.ps.length) = false := decide_eq_false (by omega)
      have EE : Hid (txK T T.ps.length = txT T) := hide (by rw [← KE.out]; congr 1; omega)
      go_wp2
      go_ret
      exact ⟨by rw [← EE.out]; rfl, HO.out.1⟩
theorem rtext19_any (T : Tab) (a : TabA) (w : World) (ht : TabSl w T a) (hv : vT T = true) : Calls Tryz.prog 12 #[T.val a] w (RetV (strV (txT T)) w) := rtext19_any0 T a.A1 a.A2 a.A3 a.c1 a.c2 a.c3 w ht hv
end Go.Proofs.YtnhimgabcljahaaGreatDoor

namespace Go.Proofs.YtnhimgabcljahaaGreatDoor
open Go Go.RowKit

/-- two rows of integers beside blocks of the call's own -/
structure Rw2 (w W : World) (L : List (Nat × TypeId × Array Value)) (x y : Value) (lx ly : List Int) : Prop where
  own : Own w W L
  b : w.heap.size ≤ W.heap.size
  ty : ∀ z ∈ L, 3 ≠ z.2.1
  rx : IR W w.heap.size x lx
  ry : IR W w.heap.size y ly
  ne : ∀ g, x.ownBlock = some g → y.ownBlock ≠ some g
section
variable {w W W' : World} {L : List (Nat × TypeId × Array Value)} {x y x' : Value} {lx ly m : List Int}
theorem Rw2.swap (h : Rw2 w W L x y lx ly) : Rw2 w W L y x ly lx := ⟨h.own, h.b, h.ty, h.ry, h.rx, fun g h1 h2 => h.ne g h2 h1⟩
theorem Rw2.newX (h : Rw2 w W L (.slice none 0 0) y [] ly) : Rw2 w (W.alloc (.cells #[] 3)) L (.slice (some ⟨W.heap.size, 0, none⟩) 0 0) y [] ly :=
  ⟨h.own.to ((Below.refl _ _).alloc (Nat.le_refl _) _), by rw [World.size_alloc]; have := h.b; omega, h.ty, ⟨rfl, .inr ⟨W.heap.size, 0, #[], rfl, h.b, heap_alloc_new W _, Nat.le_refl _, by unfold maxLen; omega, rfl, rfl⟩⟩, h.ry.alloc _, fun g h1 h2 => by
    have : W.heap.size = g := by simpa [Value.ownBlock] using h1
    have := (h.ry.lt g h2).2
    omega⟩
theorem Rw2.box (h : Rw2 w W L x y lx ly) (cs : Array Value) (t : TypeId) (ht : 3 ≠ t) : Rw2 w (W.alloc (.cells cs t)) ((W.heap.size, t, cs) :: L) x y lx ly :=
  ⟨h.own.alloc cs t, by rw [World.size_alloc]; have := h.b; omega, fun z hz => by
    rcases List.mem_cons.1 hz with rfl | hz
    · exact ht
    · exact h.ty z hz, h.rx.alloc _, h.ry.alloc _, h.ne⟩
theorem Rw2.appX (h : Rw2 w W L x y [] ly) (hown : W'.ownsRow w.heap.size 3 1 x' m.length (m.map (Value.int .i64))) (hg : W.grownBy W' x.ownBlock) (ho : x'.ownBlock = x.ownBlock ∨ x'.ownBlock = some W.heap.size) : Rw2 w W' L x' y m ly := by
  refine ⟨⟨h.own.1.grown hg h.own.1.size (fun k hk => (h.rx.lt k hk).1), fun z hz => (h.own.2 z hz).grown hg (fun e => own_blk_ne h.rx (h.own.2 z hz) (h.ty z hz) e.symm)⟩, Nat.le_trans h.b hg.size, h.ty, hown, ?_, fun g h1 h2 => ?_⟩
  · refine h.ry.kept hg ?_
    cases hy : y.ownBlock with
    | none => exact .inl rfl
    | some g => exact .inr (fun e => h.ne g e.symm hy)
  · rcases ho with ho | ho
    · exact h.ne g (ho ▸ h1) h2
    · rw [ho] at h1
      injection h1 with h1
      have := (h.ry.lt g h2).2
      omega
theorem Rw2.drew (h : Rw2 w W L x y lx ly) : Rw2 w W.drew L x y lx ly := ⟨h.own.drew, h.b, h.ty, h.rx, h.ry, h.ne⟩
end
theorem HdT.three {P : Program} {ops : Array Oper} {Q : Exit → Act → World → Prop} {md : Region.Mode} {S : World → Prop} {n f : Nat} {m : Array Bool} {a : Act} {w : World} {i j k : Nat} (hr : Region.ready md ops m = [i, j, k]) (hin : i < n) (hjn : j < n) (hkn : k < n) (h1 : wpOp P ops Q i (fun a' w' => S w' ∧ HdT P md ops Q S n f (m.setIfInBounds i true) a' w') a w)
    (h2 : wpOp P ops Q j (fun a' w' => S w' ∧ HdT P md ops Q S n f (m.setIfInBounds j true) a' w') a w) (h3 : wpOp P ops Q k (fun a' w' => S w' ∧ HdT P md ops Q S n f (m.setIfInBounds k true) a' w') a w) : HdT P md ops Q S n (f + 1) m a w := fun inv =>
  ⟨fun e => (by rw [hr] at e; cases e), fun x hx => by
    have hx' := hx
    rw [hr] at hx
    rcases List.mem_cons.1 hx with rfl | hx
    · exact wpOp_mono (fun a' w' h' => ⟨fun _ => h'.1, h'.2 (inv.set hx' hin)⟩) h1
    · rcases List.mem_cons.1 hx with rfl | hx
      · exact wpOp_mono (fun a' w' h' => ⟨fun _ => h'.1, h'.2 (inv.set hx' hjn)⟩) h2
      · obtain rfl := List.mem_singleton.1 hx
        exact wpOp_mono (fun a' w' h' => ⟨fun _ => h'.1, h'.2 (inv.set hx' hkn)⟩) h3⟩
set_option maxRecDepth 100000 in
set_option maxHeartbeats 8000000 in
theorem rscale19_any (T : Tab) (a : TabA) (num den : Int) (w : World) (ht : TabSl w T a) (h1 : vT T = true) (hn : 1 ≤ num ∧ num ≤ 1000000) (hd : 1 ≤ den ∧ den ≤ 1000000) :
    Calls Tryz.prog 13 #[T.val a, .int .i64 num, .int .i64 den] w (ScPost T num den w) := by
  obtain ⟨A1, A2, A3, k1, k2, k3⟩ := a
  have v := of_vT h1
  have HTP := hide ht.parts
  obtain ⟨rb, ro, rfl, hrb, hrow⟩ := HTP.out.2.2.2 (by rw [v.rl]; exact v.p1)
  have HROW := hide hrow
  clear hrow
  obtain ⟨i0, hi0, hz0, hz1, hz2⟩ := info_parts int_infoT
  have X := ((Own.start w).alloc #[.slice A1 T.ds.length k1, .slice A2 T.ps.length k2, .slice (some ⟨rb, ro, none⟩) T.rows.length k3] 25).alloc #[.slice none 0 0, .slice none 0 0, .slice none 0 0] 25
  simp only [World.size_alloc] at X
  have HT := hide ht
  have VT' := hide v
  have DR := hide (fun W (h : Below w.heap.size w W) => reads_int (HTP.out.1.below h))
  have PR := hide (fun W (h : Below w.heap.size w W) => reads_int (HTP.out.2.1.below h))
  have NN := hide (And.intro hn hd)
  have vd2 := v.d2
  have vp2 := v.p2
  have fD1 : 0 + T.ds.length ≤ maxLen := by unfold maxLen; omega
  have fD2 : (0 + T.ds.length) * 8 ≤ 140737488355328 := by omega
  have fP1 : 0 + T.ps.length ≤ maxLen := by unfold maxLen; omega
  have fP2 : (0 + T.ps.length) * 8 ≤ 140737488355328 := by omega
  have fD4 : ∀ u ∈ T.ds.map (Value.int .i64), u.oneCell' = true := by intro u hu; obtain ⟨x, _, rfl⟩ := List.mem_map.1 hu; rfl
  have fP4 : ∀ u ∈ T.ps.map (Value.int .i64), u.oneCell' = true := by intro u hu; obtain ⟨x, _, rfl⟩ := List.mem_map.1 hu; rfl
  clear ht v hn hd vd2 vp2
  have hr := X.r2
  have HX := hide X
  clear X
  go_enter Tryz.func13, Tryz.ntmps13
  go_wp2
  go_cut [8] (fun v8 wx => ∃ (b8 : Nat) (D P : Value), v8 = .pointer (some ⟨b8, 0, none⟩) ∧ Mk w wx b8 D P (.slice none 0 0) T.ds T.ps #[.slice A1 T.ds.length k1, .slice A2 T.ps.length k2, .slice (some ⟨rb, ro, none⟩) T.rows.length k3] #[.slice none 0 0, .slice none 0 0, .slice none 0 0] [] [])
  case first =>
    have HSS := hide (fun W1 L (R : Own w W1 L) (hm : (w.heap.size, 25, (#[.slice A1 T.ds.length k1, .slice A2 T.ps.length k2, .slice (some ⟨rb, ro, none⟩) T.rows.length k3] : Array Value)) ∈ L) => (show W1.cell? ⟨w.heap.size, 0, none⟩ = some (.slice A1 T.ds.length k1) ∧ W1.cell? ⟨w.heap.size, 1, none⟩ = some (.slice A2 T.ps.length k2) from
      ⟨(R.2 _ hm).cell 0, (R.2 _ hm).cell 1⟩))
    have R0 := hide (show Rw2 w _ [(w.heap.size + 1, 25, #[.slice none 0 0, .slice none 0 0, .slice none 0 0]), (w.heap.size, 25, #[.slice A1 T.ds.length k1, .slice A2 T.ps.length k2, .slice (some ⟨rb, ro, none⟩) T.rows.length k3])] (.slice none 0 0) (.slice none 0 0) [] [] from ⟨HX.out, HX.out.1.size, fun z hz => by
      simp only [List.mem_cons, List.not_mem_nil, or_false] at hz
      rcases hz with rfl | rfl
      all_goals (show 3 ≠ 25; decide), World.ownsRow_nil _ _ _ _, World.ownsRow_nil _ _ _ _, fun g h => by simp [Value.ownBlock] at h⟩).drew
    clear hr HX
    refine wp_region_T (S := fun W1 => W1.cell? ⟨w.heap.size, 0, none⟩ = some (.slice A1 T.ds.length k1) ∧ W1.cell? ⟨w.heap.size, 1, none⟩ = some (.slice A2 T.ps.length k2)) 10 (by kernel_rfl) ?_
    have hs0 := HSS.out _ _ R0.out.own (by simp)
    refine HdT.take (i := 1) (v := ?_) (d := some 14) (by kernel_rfl) rfl rfl (by decide) (by kernel_rfl) (by kernel_rfl) (fun _ _ _ h => h) hs0 (Or.inl ⟨by rfl, ?_⟩) ?_
    rotate_left
    · (intro W1 hS1; obtain ⟨hS1, hS2⟩ := hS1; go_simp; first | done | (with_reducible rfl))
    simp only [Act.put, List.setIfInBounds_toArray, List.set_cons_zero, List.set_cons_succ]
    refine HdT.take (i := 2) (v := ?_) (d := some 15) (by kernel_rfl) rfl rfl (by decide) (by kernel_rfl) (by kernel_rfl) (fun _ _ _ h => h) hs0 (Or.inl ⟨by rfl, ?_⟩) ?_
    rotate_left
    · (intro W1 hS1; obtain ⟨hS1, hS2⟩ := hS1; go_simp; first | done | (with_reducible rfl))
    simp only [Act.put, List.setIfInBounds_toArray, List.set_cons_zero, List.set_cons_succ]
    refine HdT.take (i := 5) (v := ?_) (d := some 18) (by kernel_rfl) rfl rfl (by decide) (by kernel_rfl) (by kernel_rfl) (fun _ _ _ h => h) hs0 (Or.inl ⟨by rfl, ?_⟩) ?_
    rotate_left
    · (intro W1 hS1; obtain ⟨hS1, hS2⟩ := hS1; go_simp; first | done | (with_reducible rfl))
    simp only [Act.put, List.setIfInBounds_toArray, List.set_cons_zero, List.set_cons_succ]
    refine HdT.take (i := 6) (v := ?_) (d := some 19) (by kernel_rfl) rfl rfl (by decide) (by kernel_rfl) (by kernel_rfl) (fun _ _ _ h => h) hs0 (Or.inl ⟨by rfl, ?_⟩) ?_
    rotate_left
    · (intro W1 hS1; obtain ⟨hS1, hS2⟩ := hS1; go_simp; first | done | (with_reducible rfl))
    simp only [Act.put, List.setIfInBounds_toArray, List.set_cons_zero, List.set_cons_succ]
    generalize World.drew ((w.alloc (.cells #[.slice A1 T.ds.length k1, .slice A2 T.ps.length k2, .slice (some ⟨rb, ro, none⟩) T.rows.length k3] 25)).alloc (.cells #[.slice none 0 0, .slice none 0 0, .slice none 0 0] 25)) = Wa0 at *
    refine HdT.three (i := 0) (j := 4) (k := 9) (by kernel_rfl) (by decide) (by decide) (by decide) ?_ ?_ ?_
    · refine wpOp_step rfl (fun KK hKK => ?_)
      go_simp
      have R1 := hide R0.out.newX
      have hs1 := HSS.out _ _ R1.out.own (by simp)
      refine hKK _ _ ⟨hs1, ?_⟩
      clear hKK KK R0 hs0
      generalize Wa0.heap.size = gb1 at *
      generalize Wa0.alloc (.cells #[] 3) = Wa1 at *
      refine HdT.three (i := 3) (j := 4) (k := 9) (by kernel_rfl) (by decide) (by decide) (by decide) ?_ ?_ ?_
      · refine wpOp_step rfl (fun KK hKK => ?_)
        refine step_append_any (w := Wa1) (by rfl) _ _ _ (by rfl) w.heap.size 3 i0 (.int .i64 0) 1 8 Tryz.underlying22 hi0 hz0 hz1 hz2 rfl (by decide) _ 0 [] (by rfl) R1.out.rx _ _ T.ds.length _ (T.ds.map (Value.int .i64)) (by rfl) (DR.out _ R1.out.own.1) fD4 fD1 fD2 R1.out.b ?_
        intro v1 Wa2 hown hg ho
        rw [Nat.zero_add, List.nil_append] at hown
        obtain ⟨aD, cD, hv, -⟩ := row_slice2 hown
        subst hv
        have R2 := hide ((R1.out.appX hown hg ho))
        have hs2 := HSS.out _ _ R2.out.own (by simp)
        refine hKK _ _ ⟨hs2, ?_⟩
        clear hKK KK hown hg ho R1 hs1
        refine HdT.two (i := 4) (j := 9) (by kernel_rfl) (by decide) (by decide) ?_ ?_
        · refine wpOp_step rfl (fun KK hKK => ?_)
          go_simp
          have R3 := hide R2.out.swap.newX.swap
          have hs3 := HSS.out _ _ R3.out.own (by simp)
          refine hKK _ _ ⟨hs3, ?_⟩
          clear hKK KK R2 hs2
          generalize Wa2.heap.size = gb2 at *
          generalize Wa2.alloc (.cells #[] 3) = Wa3 at *
          refine HdT.two (i := 7) (j := 9) (by kernel_rfl) (by decide) (by decide) ?_ ?_
          · refine wpOp_step rfl (fun KK hKK => ?_)
            refine step_append_any (w := Wa3) (by rfl) _ _ _ (by rfl) w.heap.size 3 i0 (.int .i64 0) 1 8 Tryz.underlying22 hi0 hz0 hz1 hz2 rfl (by decide) _ 0 [] (by rfl) R3.out.ry _ _ T.ps.length _ (T.ps.map (Value.int .i64)) (by rfl) (PR.out _ R3.out.own.1) fP4 fP1 fP2 R3.out.b ?_
            intro v3 Wa4 hown hg ho
            rw [Nat.zero_add, List.nil_append] at hown
            obtain ⟨aP, cP, hv, -⟩ := row_slice2 hown
            subst hv
            have R4 := hide ((R3.out.swap.appX hown hg ho).swap)
            have hs4 := HSS.out _ _ R4.out.own (by simp)
            refine hKK _ _ ⟨hs4, ?_⟩
            clear hKK KK hown hg ho R3 hs3
            refine HdT.take (i := 8) (v := ?_) (d := some 21) (by kernel_rfl) rfl rfl (by decide) (by kernel_rfl) (by kernel_rfl) (fun _ _ _ h => h) hs4 (Or.inl ⟨by rfl, ?_⟩) ?_
            rotate_left
            · (intro W1 hS1; obtain ⟨hS1, hS2⟩ := hS1; go_simp; first | done | (with_reducible rfl))
            refine HdT.one (i := 9) (by kernel_rfl) (by decide) ?_
            refine wpOp_step rfl (fun KK hKK => ?_)
            go_simp
            have R5 := hide (R4.out.box #[.slice none 0 0, .slice none 0 0, .slice none 0 0] 25 (by decide))
            have B8 : Hid (w.heap.size + 1 < Wa4.heap.size) := hide (R4.out.own.2 _ (by simp : (w.heap.size + 1, 25, (#[.slice none 0 0, .slice none 0 0, .slice none 0 0] : Array Value)) ∈ _)).lt
            have hs5 := HSS.out _ _ R5.out.own (by simp)
            refine hKK _ _ ⟨hs5, ?_⟩
            clear hKK KK R4 hs4
            generalize Wa4.heap.size = b8 at *
            generalize Wa4.alloc (.cells #[.slice none 0 0, .slice none 0 0, .slice none 0 0] 25) = Wa5 at *
            have hr := R5.out.own.r3
            refine HdT.tail ?_
            refine anyT.one (i := 10) (by kernel_rfl) (by decide) (wpOp_step rfl (fun KK hKK => ?_))
            go_simp
            refine hKK _ _ ?_
            clear hKK KK
            refine anyT.done (by kernel_rfl) ?_ _
            go_wp2_with fail
            go_meet
            exact ⟨b8, .slice aD T.ds.length cD, .slice aP T.ps.length cP, rfl, Mk.start_b R5.out.own R5.out.rx R5.out.ry B8.out⟩
          · refine wpOp_step rfl (fun KK hKK => ?_)
            go_simp
            have R4 := hide (R3.out.box #[.slice none 0 0, .slice none 0 0, .slice none 0 0] 25 (by decide))
            have B8 : Hid (w.heap.size + 1 < Wa3.heap.size) := hide (R3.out.own.2 _ (by simp : (w.heap.size + 1, 25, (#[.slice none 0 0, .slice none 0 0, .slice none 0 0] : Array Value)) ∈ _)).lt
            have hs4 := HSS.out _ _ R4.out.own (by simp)
            refine hKK _ _ ⟨hs4, ?_⟩
            clear hKK KK R3 hs3
            generalize Wa3.heap.size = b8 at *
            generalize Wa3.alloc (.cells #[.slice none 0 0, .slice none 0 0, .slice none 0 0] 25) = Wa4 at *
            refine HdT.one (i := 7) (by kernel_rfl) (by decide) ?_
            refine wpOp_step rfl (fun KK hKK => ?_)
            refine step_append_any (w := Wa4) (by rfl) _ _ _ (by rfl) w.heap.size 3 i0 (.int .i64 0) 1 8 Tryz.underlying22 hi0 hz0 hz1 hz2 rfl (by decide) _ 0 [] (by rfl) R4.out.ry _ _ T.ps.length _ (T.ps.map (Value.int .i64)) (by rfl) (PR.out _ R4.out.own.1) fP4 fP1 fP2 R4.out.b ?_
            intro v4 Wa5 hown hg ho
            rw [Nat.zero_add, List.nil_append] at hown
            obtain ⟨aP, cP, hv, -⟩ := row_slice2 hown
            subst hv
            have R5 := hide ((R4.out.swap.appX hown hg ho).swap)
            have hs5 := HSS.out _ _ R5.out.own (by simp)
            refine hKK _ _ ⟨hs5, ?_⟩
            clear hKK KK hown hg ho R4 hs4
            refine HdT.take (i := 8) (v := ?_) (d := some 21) (by kernel_rfl) rfl rfl (by decide) (by kernel_rfl) (by kernel_rfl) (fun _ _ _ h => h) hs5 (Or.inl ⟨by rfl, ?_⟩) ?_
            rotate_left
            · (intro W1 hS1; obtain ⟨hS1, hS2⟩ := hS1; go_simp; first | done | (with_reducible rfl))
            have hr := R5.out.own.r3
            refine HdT.tail ?_
            refine anyT.one (i := 10) (by kernel_rfl) (by decide) (wpOp_step rfl (fun KK hKK => ?_))
            go_simp
            refine hKK _ _ ?_
            clear hKK KK
            refine anyT.done (by kernel_rfl) ?_ _
            go_wp2_with fail
            go_meet
            exact ⟨b8, .slice aD T.ds.length cD, .slice aP T.ps.length cP, rfl, Mk.start_b R5.out.own R5.out.rx R5.out.ry B8.out⟩
        · refine wpOp_step rfl (fun KK hKK => ?_)
          go_simp
          have R3 := hide (R2.out.box #[.slice none 0 0, .slice none 0 0, .slice none 0 0] 25 (by decide))
          have B8 : Hid (w.heap.size + 1 < Wa2.heap.size) := hide (R2.out.own.2 _ (by simp : (w.heap.size + 1, 25, (#[.slice none 0 0, .slice none 0 0, .slice none 0 0] : Array Value)) ∈ _)).lt
          have hs3 := HSS.out _ _ R3.out.own (by simp)
          refine hKK _ _ ⟨hs3, ?_⟩
          clear hKK KK R2 hs2
          generalize Wa2.heap.size = b8 at *
          generalize Wa2.alloc (.cells #[.slice none 0 0, .slice none 0 0, .slice none 0 0] 25) = Wa3 at *
          refine HdT.one (i := 4) (by kernel_rfl) (by decide) ?_
          refine wpOp_step rfl (fun KK hKK => ?_)
          go_simp
          have R4 := hide R3.out.swap.newX.swap
          have hs4 := HSS.out _ _ R4.out.own (by simp)
          refine hKK _ _ ⟨hs4, ?_⟩
          clear hKK KK R3 hs3
          generalize Wa3.heap.size = gb2 at *
          generalize Wa3.alloc (.cells #[] 3) = Wa4 at *
          refine HdT.one (i := 7) (by kernel_rfl) (by decide) ?_
          refine wpOp_step rfl (fun KK hKK => ?_)
          refine step_append_any (w := Wa4) (by rfl) _ _ _ (by rfl) w.heap.size 3 i0 (.int .i64 0) 1 8 Tryz.underlying22 hi0 hz0 hz1 hz2 rfl (by decide) _ 0 [] (by rfl) R4.out.ry _ _ T.ps.length _ (T.ps.map (Value.int .i64)) (by rfl) (PR.out _ R4.out.own.1) fP4 fP1 fP2 R4.out.b ?_
          intro v4 Wa5 hown hg ho
          rw [Nat.zero_add, List.nil_append] at hown
          obtain ⟨aP, cP, hv, -⟩ := row_slice2 hown
          subst hv
          have R5 := hide ((R4.out.swap.appX hown hg ho).swap)
          have hs5 := HSS.out _ _ R5.out.own (by simp)
          refine hKK _ _ ⟨hs5, ?_⟩
          clear hKK KK hown hg ho R4 hs4
          refine HdT.take (i := 8) (v := ?_) (d := some 21) (by kernel_rfl) rfl rfl (by decide) (by kernel_rfl) (by kernel_rfl) (fun _ _ _ h => h) hs5 (Or.inl ⟨by rfl, ?_⟩) ?_
          rotate_left
          · (intro W1 hS1; obtain ⟨hS1, hS2⟩ := hS1; go_simp; first | done | (with_reducible rfl))
          have hr := R5.out.own.r3
          refine HdT.tail ?_
          refine anyT.one (i := 10) (by kernel_rfl) (by decide) (wpOp_step rfl (fun KK hKK => ?_))
          go_simp
          refine hKK _ _ ?_
          clear hKK KK
          refine anyT.done (by kernel_rfl) ?_ _
          go_wp2_with fail
          go_meet
          exact ⟨b8, .slice aD T.ds.length cD, .slice aP T.ps.length cP, rfl, Mk.start_b R5.out.own R5.out.rx R5.out.ry B8.out⟩
      · refine wpOp_step rfl (fun KK hKK => ?_)
        go_simp
        have R2 := hide R1.out.swap.newX.swap
        have hs2 := HSS.out _ _ R2.out.own (by simp)
        refine hKK _ _ ⟨hs2, ?_⟩
        clear hKK KK R1 hs1
        generalize Wa1.heap.size = gb2 at *
        generalize Wa1.alloc (.cells #[] 3) = Wa2 at *
        refine HdT.two (i := 3) (j := 9) (by kernel_rfl) (by decide) (by decide) ?_ ?_
        · refine wpOp_step rfl (fun KK hKK => ?_)
          refine step_append_any (w := Wa2) (by rfl) _ _ _ (by rfl) w.heap.size 3 i0 (.int .i64 0) 1 8 Tryz.underlying22 hi0 hz0 hz1 hz2 rfl (by decide) _ 0 [] (by rfl) R2.out.rx _ _ T.ds.length _ (T.ds.map (Value.int .i64)) (by rfl) (DR.out _ R2.out.own.1) fD4 fD1 fD2 R2.out.b ?_
          intro v2 Wa3 hown hg ho
          rw [Nat.zero_add, List.nil_append] at hown
          obtain ⟨aD, cD, hv, -⟩ := row_slice2 hown
          subst hv
          have R3 := hide ((R2.out.appX hown hg ho))
          have hs3 := HSS.out _ _ R3.out.own (by simp)
          refine hKK _ _ ⟨hs3, ?_⟩
          clear hKK KK hown hg ho R2 hs2
          refine HdT.two (i := 7) (j := 9) (by kernel_rfl) (by decide) (by decide) ?_ ?_
          · refine wpOp_step rfl (fun KK hKK => ?_)
            refine step_append_any (w := Wa3) (by rfl) _ _ _ (by rfl) w.heap.size 3 i0 (.int .i64 0) 1 8 Tryz.underlying22 hi0 hz0 hz1 hz2 rfl (by decide) _ 0 [] (by rfl) R3.out.ry _ _ T.ps.length _ (T.ps.map (Value.int .i64)) (by rfl) (PR.out _ R3.out.own.1) fP4 fP1 fP2 R3.out.b ?_
            intro v3 Wa4 hown hg ho
            rw [Nat.zero_add, List.nil_append] at hown
            obtain ⟨aP, cP, hv, -⟩ := row_slice2 hown
            subst hv
            have R4 := hide ((R3.out.swap.appX hown hg ho).swap)
            have hs4 := HSS.out _ _ R4.out.own (by simp)
            refine hKK _ _ ⟨hs4, ?_⟩
            clear hKK KK hown hg ho R3 hs3
            refine HdT.take (i := 8) (v := ?_) (d := some 21) (by kernel_rfl) rfl rfl (by decide) (by kernel_rfl) (by kernel_rfl) (fun _ _ _ h => h) hs4 (Or.inl ⟨by rfl, ?_⟩) ?_
            rotate_left
            · (intro W1 hS1; obtain ⟨hS1, hS2⟩ := hS1; go_simp; first | done | (with_reducible rfl))
            refine HdT.one (i := 9) (by kernel_rfl) (by decide) ?_
            refine wpOp_step rfl (fun KK hKK => ?_)
            go_simp
            have R5 := hide (R4.out.box #[.slice none 0 0, .slice none 0 0, .slice none 0 0] 25 (by decide))
            have B8 : Hid (w.heap.size + 1 < Wa4.heap.size) := hide (R4.out.own.2 _ (by simp : (w.heap.size + 1, 25, (#[.slice none 0 0, .slice none 0 0, .slice none 0 0] : Array Value)) ∈ _)).lt
            have hs5 := HSS.out _ _ R5.out.own (by simp)
            refine hKK _ _ ⟨hs5, ?_⟩
            clear hKK KK R4 hs4
            generalize Wa4.heap.size = b8 at *
            generalize Wa4.alloc (.cells #[.slice none 0 0, .slice none 0 0, .slice none 0 0] 25) = Wa5 at *
            have hr := R5.out.own.r3
            refine HdT.tail ?_
            refine anyT.one (i := 10) (by kernel_rfl) (by decide) (wpOp_step rfl (fun KK hKK => ?_))
            go_simp
            refine hKK _ _ ?_
            clear hKK KK
            refine anyT.done (by kernel_rfl) ?_ _
            go_wp2_with fail
            go_meet
            exact ⟨b8, .slice aD T.ds.length cD, .slice aP T.ps.length cP, rfl, Mk.start_b R5.out.own R5.out.rx R5.out.ry B8.out⟩
          · refine wpOp_step rfl (fun KK hKK => ?_)
            go_simp
            have R4 := hide (R3.out.box #[.slice none 0 0, .slice none 0 0, .slice none 0 0] 25 (by decide))
            have B8 : Hid (w.heap.size + 1 < Wa3.heap.size) := hide (R3.out.own.2 _ (by simp : (w.heap.size + 1, 25, (#[.slice none 0 0, .slice none 0 0, .slice none 0 0] : Array Value)) ∈ _)).lt
            have hs4 := HSS.out _ _ R4.out.own (by simp)
            refine hKK _ _ ⟨hs4, ?_⟩
            clear hKK KK R3 hs3
            generalize Wa3.heap.size = b8 at *
            generalize Wa3.alloc (.cells #[.slice none 0 0, .slice none 0 0, .slice none 0 0] 25) = Wa4 at *
            refine HdT.one (i := 7) (by kernel_rfl) (by decide) ?_
            refine wpOp_step rfl (fun KK hKK => ?_)
            refine step_append_any (w := Wa4) (by rfl) _ _ _ (by rfl) w.heap.size 3 i0 (.int .i64 0) 1 8 Tryz.underlying22 hi0 hz0 hz1 hz2 rfl (by decide) _ 0 [] (by rfl) R4.out.ry _ _ T.ps.length _ (T.ps.map (Value.int .i64)) (by rfl) (PR.out _ R4.out.own.1) fP4 fP1 fP2 R4.out.b ?_
            intro v4 Wa5 hown hg ho
            rw [Nat.zero_add, List.nil_append] at hown
            obtain ⟨aP, cP, hv, -⟩ := row_slice2 hown
            subst hv
            have R5 := hide ((R4.out.swap.appX hown hg ho).swap)
            have hs5 := HSS.out _ _ R5.out.own (by simp)
            refine hKK _ _ ⟨hs5, ?_⟩
            clear hKK KK hown hg ho R4 hs4
            refine HdT.take (i := 8) (v := ?_) (d := some 21) (by kernel_rfl) rfl rfl (by decide) (by kernel_rfl) (by kernel_rfl) (fun _ _ _ h => h) hs5 (Or.inl ⟨by rfl, ?_⟩) ?_
            rotate_left
            · (intro W1 hS1; obtain ⟨hS1, hS2⟩ := hS1; go_simp; first | done | (with_reducible rfl))
            have hr := R5.out.own.r3
            refine HdT.tail ?_
            refine anyT.one (i := 10) (by kernel_rfl) (by decide) (wpOp_step rfl (fun KK hKK => ?_))
            go_simp
            refine hKK _ _ ?_
            clear hKK KK
            refine anyT.done (by kernel_rfl) ?_ _
            go_wp2_with fail
            go_meet
            exact ⟨b8, .slice aD T.ds.length cD, .slice aP T.ps.length cP, rfl, Mk.start_b R5.out.own R5.out.rx R5.out.ry B8.out⟩
        · refine wpOp_step rfl (fun KK hKK => ?_)
          go_simp
          have R3 := hide (R2.out.box #[.slice none 0 0, .slice none 0 0, .slice none 0 0] 25 (by decide))
          have B8 : Hid (w.heap.size + 1 < Wa2.heap.size) := hide (R2.out.own.2 _ (by simp : (w.heap.size + 1, 25, (#[.slice none 0 0, .slice none 0 0, .slice none 0 0] : Array Value)) ∈ _)).lt
          have hs3 := HSS.out _ _ R3.out.own (by simp)
          refine hKK _ _ ⟨hs3, ?_⟩
          clear hKK KK R2 hs2
          generalize Wa2.heap.size = b8 at *
          generalize Wa2.alloc (.cells #[.slice none 0 0, .slice none 0 0, .slice none 0 0] 25) = Wa3 at *
          refine HdT.one (i := 3) (by kernel_rfl) (by decide) ?_
          refine wpOp_step rfl (fun KK hKK => ?_)
          refine step_append_any (w := Wa3) (by rfl) _ _ _ (by rfl) w.heap.size 3 i0 (.int .i64 0) 1 8 Tryz.underlying22 hi0 hz0 hz1 hz2 rfl (by decide) _ 0 [] (by rfl) R3.out.rx _ _ T.ds.length _ (T.ds.map (Value.int .i64)) (by rfl) (DR.out _ R3.out.own.1) fD4 fD1 fD2 R3.out.b ?_
          intro v3 Wa4 hown hg ho
          rw [Nat.zero_add, List.nil_append] at hown
          obtain ⟨aD, cD, hv, -⟩ := row_slice2 hown
          subst hv
          have R4 := hide ((R3.out.appX hown hg ho))
          have hs4 := HSS.out _ _ R4.out.own (by simp)
          refine hKK _ _ ⟨hs4, ?_⟩
          clear hKK KK hown hg ho R3 hs3
          refine HdT.one (i := 7) (by kernel_rfl) (by decide) ?_
          refine wpOp_step rfl (fun KK hKK => ?_)
          refine step_append_any (w := Wa4) (by rfl) _ _ _ (by rfl) w.heap.size 3 i0 (.int .i64 0) 1 8 Tryz.underlying22 hi0 hz0 hz1 hz2 rfl (by decide) _ 0 [] (by rfl) R4.out.ry _ _ T.ps.length _ (T.ps.map (Value.int .i64)) (by rfl) (PR.out _ R4.out.own.1) fP4 fP1 fP2 R4.out.b ?_
          intro v4 Wa5 hown hg ho
          rw [Nat.zero_add, List.nil_append] at hown
          obtain ⟨aP, cP, hv, -⟩ := row_slice2 hown
          subst hv
          have R5 := hide ((R4.out.swap.appX hown hg ho).swap)
          have hs5 := HSS.out _ _ R5.out.own (by simp)
          refine hKK _ _ ⟨hs5, ?_⟩
          clear hKK KK hown hg ho R4 hs4
          refine HdT.take (i := 8) (v := ?_) (d := some 21) (by kernel_rfl) rfl rfl (by decide) (by kernel_rfl) (by kernel_rfl) (fun _ _ _ h => h) hs5 (Or.inl ⟨by rfl, ?_⟩) ?_
          rotate_left
          · (intro W1 hS1; obtain ⟨hS1, hS2⟩ := hS1; go_simp; first | done | (with_reducible rfl))
          have hr := R5.out.own.r3
          refine HdT.tail ?_
          refine anyT.one (i := 10) (by kernel_rfl) (by decide) (wpOp_step rfl (fun KK hKK => ?_))
          go_simp
          refine hKK _ _ ?_
          clear hKK KK
          refine anyT.done (by kernel_rfl) ?_ _
          go_wp2_with fail
          go_meet
          exact ⟨b8, .slice aD T.ds.length cD, .slice aP T.ps.length cP, rfl, Mk.start_b R5.out.own R5.out.rx R5.out.ry B8.out⟩
      · refine wpOp_step rfl (fun KK hKK => ?_)
        go_simp
        have R2 := hide (R1.out.box #[.slice none 0 0, .slice none 0 0, .slice none 0 0] 25 (by decide))
        have B8 : Hid (w.heap.size + 1 < Wa1.heap.size) := hide (R1.out.own.2 _ (by simp : (w.heap.size + 1, 25, (#[.slice none 0 0, .slice none 0 0, .slice none 0 0] : Array Value)) ∈ _)).lt
        have hs2 := HSS.out _ _ R2.out.own (by simp)
        refine hKK _ _ ⟨hs2, ?_⟩
        clear hKK KK R1 hs1
        generalize Wa1.heap.size = b8 at *
        generalize Wa1.alloc (.cells #[.slice none 0 0, .slice none 0 0, .slice none 0 0] 25) = Wa2 at *
        refine HdT.two (i := 3) (j := 4) (by kernel_rfl) (by decide) (by decide) ?_ ?_
        · refine wpOp_step rfl (fun KK hKK => ?_)
          refine step_append_any (w := Wa2) (by rfl) _ _ _ (by rfl) w.heap.size 3 i0 (.int .i64 0) 1 8 Tryz.underlying22 hi0 hz0 hz1 hz2 rfl (by decide) _ 0 [] (by rfl) R2.out.rx _ _ T.ds.length _ (T.ds.map (Value.int .i64)) (by rfl) (DR.out _ R2.out.own.1) fD4 fD1 fD2 R2.out.b ?_
          intro v2 Wa3 hown hg ho
          rw [Nat.zero_add, List.nil_append] at hown
          obtain ⟨aD, cD, hv, -⟩ := row_slice2 hown
          subst hv
          have R3 := hide ((R2.out.appX hown hg ho))
          have hs3 := HSS.out _ _ R3.out.own (by simp)
          refine hKK _ _ ⟨hs3, ?_⟩
          clear hKK KK hown hg ho R2 hs2
          refine HdT.one (i := 4) (by kernel_rfl) (by decide) ?_
          refine wpOp_step rfl (fun KK hKK => ?_)
          go_simp
          have R4 := hide R3.out.swap.newX.swap
          have hs4 := HSS.out _ _ R4.out.own (by simp)
          refine hKK _ _ ⟨hs4, ?_⟩
          clear hKK KK R3 hs3
          generalize Wa3.heap.size = gb2 at *
          generalize Wa3.alloc (.cells #[] 3) = Wa4 at *
          refine HdT.one (i := 7) (by kernel_rfl) (by decide) ?_
          refine wpOp_step rfl (fun KK hKK => ?_)
          refine step_append_any (w := Wa4) (by rfl) _ _ _ (by rfl) w.heap.size 3 i0 (.int .i64 0) 1 8 Tryz.underlying22 hi0 hz0 hz1 hz2 rfl (by decide) _ 0 [] (by rfl) R4.out.ry _ _ T.ps.length _ (T.ps.map (Value.int .i64)) (by rfl) (PR.out _ R4.out.own.1) fP4 fP1 fP2 R4.out.b ?_
          intro v4 Wa5 hown hg ho
          rw [Nat.zero_add, List.nil_append] at hown
          obtain ⟨aP, cP, hv, -⟩ := row_slice2 hown
          subst hv
          have R5 := hide ((R4.out.swap.appX hown hg ho).swap)
          have hs5 := HSS.out _ _ R5.out.own (by simp)
          refine hKK _ _ ⟨hs5, ?_⟩
          clear hKK KK hown hg ho R4 hs4
          refine HdT.take (i := 8) (v := ?_) (d := some 21) (by kernel_rfl) rfl rfl (by decide) (by kernel_rfl) (by kernel_rfl) (fun _ _ _ h => h) hs5 (Or.inl ⟨by rfl, ?_⟩) ?_
          rotate_left
          · (intro W1 hS1; obtain ⟨hS1, hS2⟩ := hS1; go_simp; first | done | (with_reducible rfl))
          have hr := R5.out.own.r3
          refine HdT.tail ?_
          refine anyT.one (i := 10) (by kernel_rfl) (by decide) (wpOp_step rfl (fun KK hKK => ?_))
          go_simp
          refine hKK _ _ ?_
          clear hKK KK
          refine anyT.done (by kernel_rfl) ?_ _
          go_wp2_with fail
          go_meet
          exact ⟨b8, .slice aD T.ds.length cD, .slice aP T.ps.length cP, rfl, Mk.start_b R5.out.own R5.out.rx R5.out.ry B8.out⟩
        · refine wpOp_step rfl (fun KK hKK => ?_)
          go_simp
          have R3 := hide R2.out.swap.newX.swap
          have hs3 := HSS.out _ _ R3.out.own (by simp)
          refine hKK _ _ ⟨hs3, ?_⟩
          clear hKK KK R2 hs2
          generalize Wa2.heap.size = gb2 at *
          generalize Wa2.alloc (.cells #[] 3) = Wa3 at *
          refine HdT.one (i := 3) (by kernel_rfl) (by decide) ?_
          refine wpOp_step rfl (fun KK hKK => ?_)
          refine step_append_any (w := Wa3) (by rfl) _ _ _ (by rfl) w.heap.size 3 i0 (.int .i64 0) 1 8 Tryz.underlying22 hi0 hz0 hz1 hz2 rfl (by decide) _ 0 [] (by rfl) R3.out.rx _ _ T.ds.length _ (T.ds.map (Value.int .i64)) (by rfl) (DR.out _ R3.out.own.1) fD4 fD1 fD2 R3.out.b ?_
          intro v3 Wa4 hown hg ho
          rw [Nat.zero_add, List.nil_append] at hown
          obtain ⟨aD, cD, hv, -⟩ := row_slice2 hown
          subst hv
          have R4 := hide ((R3.out.appX hown hg ho))
          have hs4 := HSS.out _ _ R4.out.own (by simp)
          refine hKK _ _ ⟨hs4, ?_⟩
          clear hKK KK hown hg ho R3 hs3
          refine HdT.one (i := 7) (by kernel_rfl) (by decide) ?_
          refine wpOp_step rfl (fun KK hKK => ?_)
          refine step_append_any (w := Wa4) (by rfl) _ _ _ (by rfl) w.heap.size 3 i0 (.int .i64 0) 1 8 Tryz.underlying22 hi0 hz0 hz1 hz2 rfl (by decide) _ 0 [] (by rfl) R4.out.ry _ _ T.ps.length _ (T.ps.map (Value.int .i64)) (by rfl) (PR.out _ R4.out.own.1) fP4 fP1 fP2 R4.out.b ?_
          intro v4 Wa5 hown hg ho
          rw [Nat.zero_add, List.nil_append] at hown
          obtain ⟨aP, cP, hv, -⟩ := row_slice2 hown
          subst hv
          have R5 := hide ((R4.out.swap.appX hown hg ho).swap)
          have hs5 := HSS.out _ _ R5.out.own (by simp)
          refine hKK _ _ ⟨hs5, ?_⟩
          clear hKK KK hown hg ho R4 hs4
          refine HdT.take (i := 8) (v := ?_) (d := some 21) (by kernel_rfl) rfl rfl (by decide) (by kernel_rfl) (by kernel_rfl) (fun _ _ _ h => h) hs5 (Or.inl ⟨by rfl, ?_⟩) ?_
          rotate_left
          · (intro W1 hS1; obtain ⟨hS1, hS2⟩ := hS1; go_simp; first | done | (with_reducible rfl))
          have hr := R5.out.own.r3
          refine HdT.tail ?_
          refine anyT.one (i := 10) (by kernel_rfl) (by decide) (wpOp_step rfl (fun KK hKK => ?_))
          go_simp
          refine hKK _ _ ?_
          clear hKK KK
          refine anyT.done (by kernel_rfl) ?_ _
          go_wp2_with fail
          go_meet
          exact ⟨b8, .slice aD T.ds.length cD, .slice aP T.ps.length cP, rfl, Mk.start_b R5.out.own R5.out.rx R5.out.ry B8.out⟩
    · refine wpOp_step rfl (fun KK hKK => ?_)
      go_simp
      have R1 := hide R0.out.swap.newX.swap
      have hs1 := HSS.out _ _ R1.out.own (by simp)
      refine hKK _ _ ⟨hs1, ?_⟩
      clear hKK KK R0 hs0
      generalize Wa0.heap.size = gb2 at *
      generalize Wa0.alloc (.cells #[] 3) = Wa1 at *
      refine HdT.two (i := 0) (j := 9) (by kernel_rfl) (by decide) (by decide) ?_ ?_
      · refine wpOp_step rfl (fun KK hKK => ?_)
        go_simp
        have R2 := hide R1.out.newX
        have hs2 := HSS.out _ _ R2.out.own (by simp)
        refine hKK _ _ ⟨hs2, ?_⟩
        clear hKK KK R1 hs1
        generalize Wa1.heap.size = gb1 at *
        generalize Wa1.alloc (.cells #[] 3) = Wa2 at *
        refine HdT.two (i := 3) (j := 9) (by kernel_rfl) (by decide) (by decide) ?_ ?_
        · refine wpOp_step rfl (fun KK hKK => ?_)
          refine step_append_any (w := Wa2) (by rfl) _ _ _ (by rfl) w.heap.size 3 i0 (.int .i64 0) 1 8 Tryz.underlying22 hi0 hz0 hz1 hz2 rfl (by decide) _ 0 [] (by rfl) R2.out.rx _ _ T.ds.length _ (T.ds.map (Value.int .i64)) (by rfl) (DR.out _ R2.out.own.1) fD4 fD1 fD2 R2.out.b ?_
          intro v2 Wa3 hown hg ho
          rw [Nat.zero_add, List.nil_append] at hown
          obtain ⟨aD, cD, hv, -⟩ := row_slice2 hown
          subst hv
          have R3 := hide ((R2.out.appX hown hg ho))
          have hs3 := HSS.out _ _ R3.out.own (by simp)
          refine hKK _ _ ⟨hs3, ?_⟩
          clear hKK KK hown hg ho R2 hs2
          refine HdT.two (i := 7) (j := 9) (by kernel_rfl) (by decide) (by decide) ?_ ?_
          · refine wpOp_step rfl (fun KK hKK => ?_)
            refine step_append_any (w := Wa3) (by rfl) _ _ _ (by rfl) w.heap.size 3 i0 (.int .i64 0) 1 8 Tryz.underlying22 hi0 hz0 hz1 hz2 rfl (by decide) _ 0 [] (by rfl) R3.out.ry _ _ T.ps.length _ (T.ps.map (Value.int .i64)) (by rfl) (PR.out _ R3.out.own.1) fP4 fP1 fP2 R3.out.b ?_
            intro v3 Wa4 hown hg ho
            rw [Nat.zero_add, List.nil_append] at hown
            obtain ⟨aP, cP, hv, -⟩ := row_slice2 hown
            subst hv
            have R4 := hide ((R3.out.swap.appX hown hg ho).swap)
            have hs4 := HSS.out _ _ R4.out.own (by simp)
            refine hKK _ _ ⟨hs4, ?_⟩
            clear hKK KK hown hg ho R3 hs3
            refine HdT.take (i := 8) (v := ?_) (d := some 21) (by kernel_rfl) rfl rfl (by decide) (by kernel_rfl) (by kernel_rfl) (fun _ _ _ h => h) hs4 (Or.inl ⟨by rfl, ?_⟩) ?_
            rotate_left
            · (intro W1 hS1; obtain ⟨hS1, hS2⟩ := hS1; go_simp; first | done | (with_reducible rfl))
            refine HdT.one (i := 9) (by kernel_rfl) (by decide) ?_
            refine wpOp_step rfl (fun KK hKK => ?_)
            go_simp
            have R5 := hide (R4.out.box #[.slice none 0 0, .slice none 0 0, .slice none 0 0] 25 (by decide))
            have B8 : Hid (w.heap.size + 1 < Wa4.heap.size) := hide (R4.out.own.2 _ (by simp : (w.heap.size + 1, 25, (#[.slice none 0 0, .slice none 0 0, .slice none 0 0] : Array Value)) ∈ _)).lt
            have hs5 := HSS.out _ _ R5.out.own (by simp)
            refine hKK _ _ ⟨hs5, ?_⟩
            clear hKK KK R4 hs4
            generalize Wa4.heap.size = b8 at *
            generalize Wa4.alloc (.cells #[.slice none 0 0, .slice none 0 0, .slice none 0 0] 25) = Wa5 at *
            have hr := R5.out.own.r3
            refine HdT.tail ?_
            refine anyT.one (i := 10) (by kernel_rfl) (by decide) (wpOp_step rfl (fun KK hKK => ?_))
            go_simp
            refine hKK _ _ ?_
            clear hKK KK
            refine anyT.done (by kernel_rfl) ?_ _
            go_wp2_with fail
            go_meet
            exact ⟨b8, .slice aD T.ds.length cD, .slice aP T.ps.length cP, rfl, Mk.start_b R5.out.own R5.out.rx R5.out.ry B8.out⟩
          · refine wpOp_step rfl (fun KK hKK => ?_)
            go_simp
            have R4 := hide (R3.out.box #[.slice none 0 0, .slice none 0 0, .slice none 0 0] 25 (by decide))
            have B8 : Hid (w.heap.size + 1 < Wa3.heap.size) := hide (R3.out.own.2 _ (by simp : (w.heap.size + 1, 25, (#[.slice none 0 0, .slice none 0 0, .slice none 0 0] : Array Value)) ∈ _)).lt
            have hs4 := HSS.out _ _ R4.out.own (by simp)
            refine hKK _ _ ⟨hs4, ?_⟩
            clear hKK KK R3 hs3
            generalize Wa3.heap.size = b8 at *
            generalize Wa3.alloc (.cells #[.slice none 0 0, .slice none 0 0, .slice none 0 0] 25) = Wa4 at *
            refine HdT.one (i := 7) (by kernel_rfl) (by decide) ?_
            refine wpOp_step rfl (fun KK hKK => ?_)
            refine step_append_any (w := Wa4) (by rfl) _ _ _ (by rfl) w.heap.size 3 i0 (.int .i64 0) 1 8 Tryz.underlying22 hi0 hz0 hz1 hz2 rfl (by decide) _ 0 [] (by rfl) R4.out.ry _ _ T.ps.length _ (T.ps.map (Value.int .i64)) (by rfl) (PR.out _ R4.out.own.1) fP4 fP1 fP2 R4.out.b ?_
            intro v4 Wa5 hown hg ho
            rw [Nat.zero_add, List.nil_append] at hown
            obtain ⟨aP, cP, hv, -⟩ := row_slice2 hown
            subst hv
            have R5 := hide ((R4.out.swap.appX hown hg ho).swap)
            have hs5 := HSS.out _ _ R5.out.own (by simp)
            refine hKK _ _ ⟨hs5, ?_⟩
            clear hKK KK hown hg ho R4 hs4
            refine HdT.take (i := 8) (v := ?_) (d := some 21) (by kernel_rfl) rfl rfl (by decide) (by kernel_rfl) (by kernel_rfl) (fun _ _ _ h => h) hs5 (Or.inl ⟨by rfl, ?_⟩) ?_
            rotate_left
            · (intro W1 hS1; obtain ⟨hS1, hS2⟩ := hS1; go_simp; first | done | (with_reducible rfl))
            have hr := R5.out.own.r3
            refine HdT.tail ?_
            refine anyT.one (i := 10) (by kernel_rfl) (by decide) (wpOp_step rfl (fun KK hKK => ?_))
            go_simp
            refine hKK _ _ ?_
            clear hKK KK
            refine anyT.done (by kernel_rfl) ?_ _
            go_wp2_with fail
            go_meet
            exact ⟨b8, .slice aD T.ds.length cD, .slice aP T.ps.length cP, rfl, Mk.start_b R5.out.own R5.out.rx R5.out.ry B8.out⟩
        · refine wpOp_step rfl (fun KK hKK => ?_)
          go_simp
          have R3 := hide (R2.out.box #[.slice none 0 0, .slice none 0 0, .slice none 0 0] 25 (by decide))
          have B8 : Hid (w.heap.size + 1 < Wa2.heap.size) := hide (R2.out.own.2 _ (by simp : (w.heap.size + 1, 25, (#[.slice none 0 0, .slice none 0 0, .slice none 0 0] : Array Value)) ∈ _)).lt
          have hs3 := HSS.out _ _ R3.out.own (by simp)
          refine hKK _ _ ⟨hs3, ?_⟩
          clear hKK KK R2 hs2
          generalize Wa2.heap.size = b8 at *
          generalize Wa2.alloc (.cells #[.slice none 0 0, .slice none 0 0, .slice none 0 0] 25) = Wa3 at *
          refine HdT.one (i := 3) (by kernel_rfl) (by decide) ?_
          refine wpOp_step rfl (fun KK hKK => ?_)
          refine step_append_any (w := Wa3) (by rfl) _ _ _ (by rfl) w.heap.size 3 i0 (.int .i64 0) 1 8 Tryz.underlying22 hi0 hz0 hz1 hz2 rfl (by decide) _ 0 [] (by rfl) R3.out.rx _ _ T.ds.length _ (T.ds.map (Value.int .i64)) (by rfl) (DR.out _ R3.out.own.1) fD4 fD1 fD2 R3.out.b ?_
          intro v3 Wa4 hown hg ho
          rw [Nat.zero_add, List.nil_append] at hown
          obtain ⟨aD, cD, hv, -⟩ := row_slice2 hown
          subst hv
          have R4 := hide ((R3.out.appX hown hg ho))
          have hs4 := HSS.out _ _ R4.out.own (by simp)
          refine hKK _ _ ⟨hs4, ?_⟩
          clear hKK KK hown hg ho R3 hs3
          refine HdT.one (i := 7) (by kernel_rfl) (by decide) ?_
          refine wpOp_step rfl (fun KK hKK => ?_)
          refine step_append_any (w := Wa4) (by rfl) _ _ _ (by rfl) w.heap.size 3 i0 (.int .i64 0) 1 8 Tryz.underlying22 hi0 hz0 hz1 hz2 rfl (by decide) _ 0 [] (by rfl) R4.out.ry _ _ T.ps.length _ (T.ps.map (Value.int .i64)) (by rfl) (PR.out _ R4.out.own.1) fP4 fP1 fP2 R4.out.b ?_
          intro v4 Wa5 hown hg ho
          rw [Nat.zero_add, List.nil_append] at hown
          obtain ⟨aP, cP, hv, -⟩ := row_slice2 hown
          subst hv
          have R5 := hide ((R4.out.swap.appX hown hg ho).swap)
          have hs5 := HSS.out _ _ R5.out.own (by simp)
          refine hKK _ _ ⟨hs5, ?_⟩
          clear hKK KK hown hg ho R4 hs4
          refine HdT.take (i := 8) (v := ?_) (d := some 21) (by kernel_rfl) rfl rfl (by decide) (by kernel_rfl) (by kernel_rfl) (fun _ _ _ h => h) hs5 (Or.inl ⟨by rfl, ?_⟩) ?_
          rotate_left
          · (intro W1 hS1; obtain ⟨hS1, hS2⟩ := hS1; go_simp; first | done | (with_reducible rfl))
          have hr := R5.out.own.r3
          refine HdT.tail ?_
          refine anyT.one (i := 10) (by kernel_rfl) (by decide) (wpOp_step rfl (fun KK hKK => ?_))
          go_simp
          refine hKK _ _ ?_
          clear hKK KK
          refine anyT.done (by kernel_rfl) ?_ _
          go_wp2_with fail
          go_meet
          exact ⟨b8, .slice aD T.ds.length cD, .slice aP T.ps.length cP, rfl, Mk.start_b R5.out.own R5.out.rx R5.out.ry B8.out⟩
      · refine wpOp_step rfl (fun KK hKK => ?_)
        go_simp
        have R2 := hide (R1.out.box #[.slice none 0 0, .slice none 0 0, .slice none 0 0] 25 (by decide))
        have B8 : Hid (w.heap.size + 1 < Wa1.heap.size) := hide (R1.out.own.2 _ (by simp : (w.heap.size + 1, 25, (#[.slice none 0 0, .slice none 0 0, .slice none 0 0] : Array Value)) ∈ _)).lt
        have hs2 := HSS.out _ _ R2.out.own (by simp)
        refine hKK _ _ ⟨hs2, ?_⟩
        clear hKK KK R1 hs1
        generalize Wa1.heap.size = b8 at *
        generalize Wa1.alloc (.cells #[.slice none 0 0, .slice none 0 0, .slice none 0 0] 25) = Wa2 at *
        refine HdT.one (i := 0) (by kernel_rfl) (by decide) ?_
        refine wpOp_step rfl (fun KK hKK => ?_)
        go_simp
        have R3 := hide R2.out.newX
        have hs3 := HSS.out _ _ R3.out.own (by simp)
        refine hKK _ _ ⟨hs3, ?_⟩
        clear hKK KK R2 hs2
        generalize Wa2.heap.size = gb1 at *
        generalize Wa2.alloc (.cells #[] 3) = Wa3 at *
        refine HdT.one (i := 3) (by kernel_rfl) (by decide) ?_
        refine wpOp_step rfl (fun KK hKK => ?_)
        refine step_append_any (w := Wa3) (by rfl) _ _ _ (by rfl) w.heap.size 3 i0 (.int .i64 0) 1 8 Tryz.underlying22 hi0 hz0 hz1 hz2 rfl (by decide) _ 0 [] (by rfl) R3.out.rx _ _ T.ds.length _ (T.ds.map (Value.int .i64)) (by rfl) (DR.out _ R3.out.own.1) fD4 fD1 fD2 R3.out.b ?_
        intro v3 Wa4 hown hg ho
        rw [Nat.zero_add, List.nil_append] at hown
        obtain ⟨aD, cD, hv, -⟩ := row_slice2 hown
        subst hv
        have R4 := hide ((R3.out.appX hown hg ho))
        have hs4 := HSS.out _ _ R4.out.own (by simp)
        refine hKK _ _ ⟨hs4, ?_⟩
        clear hKK KK hown hg ho R3 hs3
        refine HdT.one (i := 7) (by kernel_rfl) (by decide) ?_
        refine wpOp_step rfl (fun KK hKK => ?_)
        refine step_append_any (w := Wa4) (by rfl) _ _ _ (by rfl) w.heap.size 3 i0 (.int .i64 0) 1 8 Tryz.underlying22 hi0 hz0 hz1 hz2 rfl (by decide) _ 0 [] (by rfl) R4.out.ry _ _ T.ps.length _ (T.ps.map (Value.int .i64)) (by rfl) (PR.out _ R4.out.own.1) fP4 fP1 fP2 R4.out.b ?_
        intro v4 Wa5 hown hg ho
        rw [Nat.zero_add, List.nil_append] at hown
        obtain ⟨aP, cP, hv, -⟩ := row_slice2 hown
        subst hv
        have R5 := hide ((R4.out.swap.appX hown hg ho).swap)
        have hs5 := HSS.out _ _ R5.out.own (by simp)
        refine hKK _ _ ⟨hs5, ?_⟩
        clear hKK KK hown hg ho R4 hs4
        refine HdT.take (i := 8) (v := ?_) (d := some 21) (by kernel_rfl) rfl rfl (by decide) (by kernel_rfl) (by kernel_rfl) (fun _ _ _ h => h) hs5 (Or.inl ⟨by rfl, ?_⟩) ?_
        rotate_left
        · (intro W1 hS1; obtain ⟨hS1, hS2⟩ := hS1; go_simp; first | done | (with_reducible rfl))
        have hr := R5.out.own.r3
        refine HdT.tail ?_
        refine anyT.one (i := 10) (by kernel_rfl) (by decide) (wpOp_step rfl (fun KK hKK => ?_))
        go_simp
        refine hKK _ _ ?_
        clear hKK KK
        refine anyT.done (by kernel_rfl) ?_ _
        go_wp2_with fail
        go_meet
        exact ⟨b8, .slice aD T.ds.length cD, .slice aP T.ps.length cP, rfl, Mk.start_b R5.out.own R5.out.rx R5.out.ry B8.out⟩
    · refine wpOp_step rfl (fun KK hKK => ?_)
      go_simp
      have R1 := hide (R0.out.box #[.slice none 0 0, .slice none 0 0, .slice none 0 0] 25 (by decide))
      have B8 : Hid (w.heap.size + 1 < Wa0.heap.size) := hide (R0.out.own.2 _ (by simp : (w.heap.size + 1, 25, (#[.slice none 0 0, .slice none 0 0, .slice none 0 0] : Array Value)) ∈ _)).lt
      have hs1 := HSS.out _ _ R1.out.own (by simp)
      refine hKK _ _ ⟨hs1, ?_⟩
      clear hKK KK R0 hs0
      generalize Wa0.heap.size = b8 at *
      generalize Wa0.alloc (.cells #[.slice none 0 0, .slice none 0 0, .slice none 0 0] 25) = Wa1 at *
      refine HdT.two (i := 0) (j := 4) (by kernel_rfl) (by decide) (by decide) ?_ ?_
      · refine wpOp_step rfl (fun KK hKK => ?_)
        go_simp
        have R2 := hide R1.out.newX
        have hs2 := HSS.out _ _ R2.out.own (by simp)
        refine hKK _ _ ⟨hs2, ?_⟩
        clear hKK KK R1 hs1
        generalize Wa1.heap.size = gb1 at *
        generalize Wa1.alloc (.cells #[] 3) = Wa2 at *
        refine HdT.two (i := 3) (j := 4) (by kernel_rfl) (by decide) (by decide) ?_ ?_
        · refine wpOp_step rfl (fun KK hKK => ?_)
          refine step_append_any (w := Wa2) (by rfl) _ _ _ (by rfl) w.heap.size 3 i0 (.int .i64 0) 1 8 Tryz.underlying22 hi0 hz0 hz1 hz2 rfl (by decide) _ 0 [] (by rfl) R2.out.rx _ _ T.ds.length _ (T.ds.map (Value.int .i64)) (by rfl) (DR.out _ R2.out.own.1) fD4 fD1 fD2 R2.out.b ?_
          intro v2 Wa3 hown hg ho
          rw [Nat.zero_add, List.nil_append] at hown
          obtain ⟨aD, cD, hv, -⟩ := row_slice2 hown
          subst hv
          have R3 := hide ((R2.out.appX hown hg ho))
          have hs3 := HSS.out _ _ R3.out.own (by simp)
          refine hKK _ _ ⟨hs3, ?_⟩
          clear hKK KK hown hg ho R2 hs2
          refine HdT.one (i := 4) (by kernel_rfl) (by decide) ?_
          refine wpOp_step rfl (fun KK hKK => ?_)
          go_simp
          have R4 := hide R3.out.swap.newX.swap
          have hs4 := HSS.out _ _ R4.out.own (by simp)
          refine hKK _ _ ⟨hs4, ?_⟩
          clear hKK KK R3 hs3
          generalize Wa3.heap.size = gb2 at *
          generalize Wa3.alloc (.cells #[] 3) = Wa4 at *
          refine HdT.one (i := 7) (by kernel_rfl) (by decide) ?_
          refine wpOp_step rfl (fun KK hKK => ?_)
          refine step_append_any (w := Wa4) (by rfl) _ _ _ (by rfl) w.heap.size 3 i0 (.int .i64 0) 1 8 Tryz.underlying22 hi0 hz0 hz1 hz2 rfl (by decide) _ 0 [] (by rfl) R4.out.ry _ _ T.ps.length _ (T.ps.map (Value.int .i64)) (by rfl) (PR.out _ R4.out.own.1) fP4 fP1 fP2 R4.out.b ?_
          intro v4 Wa5 hown hg ho
          rw [Nat.zero_add, List.nil_append] at hown
          obtain ⟨aP, cP, hv, -⟩ := row_slice2 hown
          subst hv
          have R5 := hide ((R4.out.swap.appX hown hg ho).swap)
          have hs5 := HSS.out _ _ R5.out.own (by simp)
          refine hKK _ _ ⟨hs5, ?_⟩
          clear hKK KK hown hg ho R4 hs4
          refine HdT.take (i := 8) (v := ?_) (d := some 21) (by kernel_rfl) rfl rfl (by decide) (by kernel_rfl) (by kernel_rfl) (fun _ _ _ h => h) hs5 (Or.inl ⟨by rfl, ?_⟩) ?_
          rotate_left
          · (intro W1 hS1; obtain ⟨hS1, hS2⟩ := hS1; go_simp; first | done | (with_reducible rfl))
          have hr := R5.out.own.r3
          refine HdT.tail ?_
          refine anyT.one (i := 10) (by kernel_rfl) (by decide) (wpOp_step rfl (fun KK hKK => ?_))
          go_simp
          refine hKK _ _ ?_
          clear hKK KK
          refine anyT.done (by kernel_rfl) ?_ _
          go_wp2_with fail
          go_meet
          exact ⟨b8, .slice aD T.ds.length cD, .slice aP T.ps.length cP, rfl, Mk.start_b R5.out.own R5.out.rx R5.out.ry B8.out⟩
        · refine wpOp_step rfl (fun KK hKK => ?_)
          go_simp
          have R3 := hide R2.out.swap.newX.swap
          have hs3 := HSS.out _ _ R3.out.own (by simp)
          refine hKK _ _ ⟨hs3, ?_⟩
          clear hKK KK R2 hs2
          generalize Wa2.heap.size = gb2 at *
          generalize Wa2.alloc (.cells #[] 3) = Wa3 at *
          refine HdT.one (i := 3) (by kernel_rfl) (by decide) ?_
          refine wpOp_step rfl (fun KK hKK => ?_)
          refine step_append_any (w := Wa3) (by rfl) _ _ _ (by rfl) w.heap.size 3 i0 (.int .i64 0) 1 8 Tryz.underlying22 hi0 hz0 hz1 hz2 rfl (by decide) _ 0 [] (by rfl) R3.out.rx _ _ T.ds.length _ (T.ds.map (Value.int .i64)) (by rfl) (DR.out _ R3.out.own.1) fD4 fD1 fD2 R3.out.b ?_
          intro v3 Wa4 hown hg ho
          rw [Nat.zero_add, List.nil_append] at hown
          obtain ⟨aD, cD, hv, -⟩ := row_slice2 hown
          subst hv
          have R4 := hide ((R3.out.appX hown hg ho))
          have hs4 := HSS.out _ _ R4.out.own (by simp)
          refine hKK _ _ ⟨hs4, ?_⟩
          clear hKK KK hown hg ho R3 hs3
          refine HdT.one (i := 7) (by kernel_rfl) (by decide) ?_
          refine wpOp_step rfl (fun KK hKK => ?_)
          refine step_append_any (w := Wa4) (by rfl) _ _ _ (by rfl) w.heap.size 3 i0 (.int .i64 0) 1 8 Tryz.underlying22 hi0 hz0 hz1 hz2 rfl (by decide) _ 0 [] (by rfl) R4.out.ry _ _ T.ps.length _ (T.ps.map (Value.int .i64)) (by rfl) (PR.out _ R4.out.own.1) fP4 fP1 fP2 R4.out.b ?_
          intro v4 Wa5 hown hg ho
          rw [Nat.zero_add, List.nil_append] at hown
          obtain ⟨aP, cP, hv, -⟩ := row_slice2 hown
          subst hv
          have R5 := hide ((R4.out.swap.appX hown hg ho).swap)
          have hs5 := HSS.out _ _ R5.out.own (by simp)
          refine hKK _ _ ⟨hs5, ?_⟩
          clear hKK KK hown hg ho R4 hs4
          refine HdT.take (i := 8) (v := ?_) (d := some 21) (by kernel_rfl) rfl rfl (by decide) (by kernel_rfl) (by kernel_rfl) (fun _ _ _ h => h) hs5 (Or.inl ⟨by rfl, ?_⟩) ?_
          rotate_left
          · (intro W1 hS1; obtain ⟨hS1, hS2⟩ := hS1; go_simp; first | done | (with_reducible rfl))
          have hr := R5.out.own.r3
          refine HdT.tail ?_
          refine anyT.one (i := 10) (by kernel_rfl) (by decide) (wpOp_step rfl (fun KK hKK => ?_))
          go_simp
          refine hKK _ _ ?_
          clear hKK KK
          refine anyT.done (by kernel_rfl) ?_ _
          go_wp2_with fail
          go_meet
          exact ⟨b8, .slice aD T.ds.length cD, .slice aP T.ps.length cP, rfl, Mk.start_b R5.out.own R5.out.rx R5.out.ry B8.out⟩
      · refine wpOp_step rfl (fun KK hKK => ?_)
        go_simp
        have R2 := hide R1.out.swap.newX.swap
        have hs2 := HSS.out _ _ R2.out.own (by simp)
        refine hKK _ _ ⟨hs2, ?_⟩
        clear hKK KK R1 hs1
        generalize Wa1.heap.size = gb2 at *
        generalize Wa1.alloc (.cells #[] 3) = Wa2 at *
        refine HdT.one (i := 0) (by kernel_rfl) (by decide) ?_
        refine wpOp_step rfl (fun KK hKK => ?_)
        go_simp
        have R3 := hide R2.out.newX
        have hs3 := HSS.out _ _ R3.out.own (by simp)
        refine hKK _ _ ⟨hs3, ?_⟩
        clear hKK KK R2 hs2
        generalize Wa2.heap.size = gb1 at *
        generalize Wa2.alloc (.cells #[] 3) = Wa3 at *
        refine HdT.one (i := 3) (by kernel_rfl) (by decide) ?_
        refine wpOp_step rfl (fun KK hKK => ?_)
        refine step_append_any (w := Wa3) (by rfl) _ _ _ (by rfl) w.heap.size 3 i0 (.int .i64 0) 1 8 Tryz.underlying22 hi0 hz0 hz1 hz2 rfl (by decide) _ 0 [] (by rfl) R3.out.rx _ _ T.ds.length _ (T.ds.map (Value.int .i64)) (by rfl) (DR.out _ R3.out.own.1) fD4 fD1 fD2 R3.out.b ?_
        intro v3 Wa4 hown hg ho
        rw [Nat.zero_add, List.nil_append] at hown
        obtain ⟨aD, cD, hv, -⟩ := row_slice2 hown
        subst hv
        have R4 := hide ((R3.out.appX hown hg ho))
        have hs4 := HSS.out _ _ R4.out.own (by simp)
        refine hKK _ _ ⟨hs4, ?_⟩
        clear hKK KK hown hg ho R3 hs3
        refine HdT.one (i := 7) (by kernel_rfl) (by decide) ?_
        refine wpOp_step rfl (fun KK hKK => ?_)
        refine step_append_any (w := Wa4) (by rfl) _ _ _ (by rfl) w.heap.size 3 i0 (.int .i64 0) 1 8 Tryz.underlying22 hi0 hz0 hz1 hz2 rfl (by decide) _ 0 [] (by rfl) R4.out.ry _ _ T.ps.length _ (T.ps.map (Value.int .i64)) (by rfl) (PR.out _ R4.out.own.1) fP4 fP1 fP2 R4.out.b ?_
        intro v4 Wa5 hown hg ho
        rw [Nat.zero_add, List.nil_append] at hown
        obtain ⟨aP, cP, hv, -⟩ := row_slice2 hown
        subst hv
        have R5 := hide ((R4.out.swap.appX hown hg ho).swap)
        have hs5 := HSS.out _ _ R5.out.own (by simp)
        refine hKK _ _ ⟨hs5, ?_⟩
        clear hKK KK hown hg ho R4 hs4
        refine HdT.take (i := 8) (v := ?_) (d := some 21) (by kernel_rfl) rfl rfl (by decide) (by kernel_rfl) (by kernel_rfl) (fun _ _ _ h => h) hs5 (Or.inl ⟨by rfl, ?_⟩) ?_
        rotate_left
        · (intro W1 hS1; obtain ⟨hS1, hS2⟩ := hS1; go_simp; first | done | (with_reducible rfl))
        have hr := R5.out.own.r3
        refine HdT.tail ?_
        refine anyT.one (i := 10) (by kernel_rfl) (by decide) (wpOp_step rfl (fun KK hKK => ?_))
        go_simp
        refine hKK _ _ ?_
        clear hKK KK
        refine anyT.done (by kernel_rfl) ?_ _
        go_wp2_with fail
        go_meet
        exact ⟨b8, .slice aD T.ds.length cD, .slice aP T.ps.length cP, rfl, Mk.start_b R5.out.own R5.out.rx R5.out.ry B8.out⟩
  case rest =>
    clear hr HX
    obtain ⟨b8, D, P, rfl, M0⟩ := hcut
    obtain ⟨j0, hj0, hy0, hy1, hy2⟩ := info_parts ints_info
    clear DR PR fD1 fD2 fP1 fP2 fD4 fP4 HTP
    have hr := M0.own.r3
    have HM := hide M0
    clear M0
    go_wp2
    clear hr
    go_loopw [9] (fun v9 wr => ∃ (k : Nat) (V : Value) (VL : List Value), k ≤ T.rows.length ∧ v9 = .int .i64 (k : Int) ∧
      Mk w wr b8 D P V T.ds T.ps #[.slice A1 T.ds.length k1, .slice A2 T.ps.length k2, .slice (some ⟨rb, ro, none⟩) T.rows.length k3] #[.slice none 0 0, .slice none 0 0, .slice none 0 0] VL ((T.rows.take k).map fun r => r.map (scD num den)) ∧ Hid (∀ i, i < k → ∀ m, m < (T.rows.getD i []).length → ¬ 4194304 < scD num den ((T.rows.getD i []).getD m 0))) (fun v9 _ => T.rows.length - (intOf v9).toNat)
    case atStart => exact ⟨0, _, _, Nat.zero_le _, rfl, by simpa using HM.out, hide (fun _ h => by omega)⟩
    case round =>
      obtain ⟨k, V, VL, hk, rfl, M, hno⟩ := hrel
      clear HM
      have rl := VT'.out.rl
      have p2 := VT'.out.p2
      by_cases hlt : k < T.rows.length
      · obtain ⟨R, c, q, hR, hRc⟩ := HROW.out k hlt
        have c0 := (M.own.1.cell (p := ⟨rb, ro + k, none⟩) hrb).trans q
        have rwk := VT'.out.rw k (by have := VT'.out.rl; omega)
        have cB := hide (fun m (hm : m < (T.rows.getD k []).length) => VT'.out.cB k m (by have := VT'.out.rl; omega) (by omega))
        have BIG := hide (fun m hm h => @scB_yes T num den k m hlt hm h)
        have d1 := VT'.out.d1
        have d2 := VT'.out.d2
        have rowE : (T.rows.take (k + 1)).map (fun r => r.map (scD num den)) = ((T.rows.take k).map fun r => r.map (scD num den)) ++ [(T.rows.getD k []).map (scD num den)] := by
          rw [List.take_succ_eq_append_getElem hlt, List.map_append]; simp [hlt]
        have lenE : ((T.rows.take k).map fun r => r.map (scD num den)).length = k := by simp; omega
        have ROWE := hide (And.intro rowE lenE)
        have NOE := hide (fun (h : ∀ m, m < (T.rows.getD k []).length → ¬ 4194304 < scD num den ((T.rows.getD k []).getD m 0)) i (hi : i < k + 1) => (by
          by_cases e : i = k
          · subst e; exact h
          · exact hno.out i (by omega) : ∀ m, m < (T.rows.getD i []).length → ¬ 4194304 < scD num den ((T.rows.getD i []).getD m 0)))
        obtain ⟨b2, o2, rfl, hb2, hat2⟩ := hR.atg (by omega)
        have HAT := hide (fun m (hm : m < (T.rows.getD k []).length) => (M.own.1.cell (p := ⟨b2, o2 + m, none⟩) hb2).trans (hat2 m hm))
        have hb2' : b2 < wr.heap.size := by have := M.own.1.size; omega
        have hrb' : rb < wr.heap.size := by have := M.own.1.size; omega
        have C0 := hide c0
        have HM := hide M
        have hr := M.own.r3
        clear q hR hRc hat2 rowE lenE M hno
        have cB' : Hid (∀ m, m < (T.rows.getD k []).length → 0 ≤ (T.rows.getD k []).getD m 0 ∧ (T.rows.getD k []).getD m 0 ≤ 4194304) := hide (fun m hm => cB.out m hm)
        clear cB
        generalize T.rows.getD k [] = row at *
        have hrn : row.length ≤ 100 := by omega
        clear rwk
        obtain ⟨W0, e0⟩ : ∃ W0, W0 = wr := ⟨_, rfl⟩
        subst e0
        go_wp2
        clear hr c0
        go_loopw [10, 11] (fun v10 v11 wi => ∃ m : Nat, m ≤ row.length ∧ v11 = .int .i64 (m : Int) ∧ Below W0.heap.size W0 wi ∧ wi.ownsRow W0.heap.size 3 1 v10 m (((row.take m).map (scD num den)).map (Value.int .i64)) ∧
          Hid (∀ i, i < m → ¬ 4194304 < scD num den (row.getD i 0))) (fun _ v11 _ => row.length - (intOf v11).toNat)
        case atStart => exact ⟨0, Nat.zero_le _, rfl, Below.refl _ _, by simpa using World.ownsRow_nil _ _ _ _, hide (fun _ h => by omega)⟩
        case round =>
          obtain ⟨m, hm, rfl, hb, hrow, hnob⟩ := hrel
          have c0 := (hb.cell (p := ⟨rb, ro + k, none⟩) hrb').trans C0.out
          by_cases hml : m < row.length
          · have c1 := (hb.cell (p := ⟨b2, o2 + m, none⟩) hb2').trans (HAT.out m hml)
            have bd := cB'.out m hml
            have TE : Hid (((row.take (m + 1)).map (scD num den)).map (Value.int .i64) = ((row.take m).map (scD num den)).map (Value.int .i64) ++ [.int .i64 (scD num den (row.getD m 0))]) := hide (by
              rw [List.take_succ_eq_append_getElem hml, List.map_append, List.map_append]; simp [hml])
            have BG := hide (fun h => BIG.out m hml h)
            have NB := hide (fun (h : ¬ 4194304 < scD num den (row.getD m 0)) i (hi : i < m + 1) => (by
              by_cases e : i = m
              · subst e; exact h
              · exact hnob.out i (by omega) : ¬ 4194304 < scD num den (row.getD i 0)))
            have nn := NN.out
            have p0 : 0 ≤ row.getD m 0 * num := Int.mul_nonneg bd.1 (by omega)
            have p1 : row.getD m 0 * num ≤ 4194304 * 1000000 := Int.mul_le_mul bd.2 (by omega) (by omega) (by omega)
            have q0 : 0 ≤ row.getD m 0 * num / den := Int.ediv_nonneg p0 (by omega)
            have q1 : row.getD m 0 * num / den ≤ row.getD m 0 * num := Int.ediv_le_self _ p0
            have s1 := IntWalk.i64_in (row.getD m 0 * num) (by omega)
            have s2 : (row.getD m 0 * num).tdiv den = scD num den (row.getD m 0) := Int.tdiv_eq_ediv_of_nonneg p0
            have s3 : IntKind.i64.wrap (scD num den (row.getD m 0)) = scD num den (row.getD m 0) := IntWalk.i64_in _ (by unfold scD; omega)
            have s4 := IntWalk.wrap64_in (row.getD m 0 * num) (by omega)
            have s5 : wrap64 (scD num den (row.getD m 0)) = scD num den (row.getD m 0) := IntWalk.wrap64_in _ (by unfold scD; omega)
            have s0 : (den == 0) = false := by simp; omega
            have s00 : ¬ den = 0 := by omega
            have Y := HM.out.own.to hb
            have hr := Y.r3
            clear bd p0 p1 q0 q1 nn hnob
            generalize scD num den (row.getD m 0) = n at *
            generalize row.getD m 0 = d at *
            generalize ((row.take m).map (scD num den)).map (Value.int .i64) = RL at *
            have HB := hide hb
            have HR := hide hrow
            clear hb hrow
            by_cases big : 4194304 < n
            · have E := hide (BG.out big)
              go_wp2
              exact bodyPost_ret (v := .tuple #[.agg #[.slice none 0 0, .slice none 0 0, .slice none 0 0], .int .i64 5]) (by simp [results, Tryz.results13, hr, go_sem]) rfl ⟨by have HX := Y.1; have hz := HX.size; go_grown, .inr ⟨E.out, rfl⟩⟩
            · have E := hide (NB.out big)
              clear Y
              go_wp2_with (at_builtin; refine wpList_append_own _ rfl _ _ 22 rfl W0.heap.size 3 i0 (.int .i64 0) 1 8 Tryz.underlying22 hi0 hz0 hz1 hz2 rfl (by decide) _ m RL rfl (HR.out.alloc (.cells #[.int .i64 n] 3)) ⟨wr.heap.size, 0, none⟩ 1 1 [.int .i64 n] rfl rfl (World.news_of_block (cs := #[.int .i64 n]) (t := 3) (fr := (0, 0)) (heap_new_at19 (by rfl))) (by simp [Value.oneCell']) (by unfold maxLen; omega) (by omega) (by have := HB.out.size; simp; omega) ?_; intro v4 w4 hown4 hgrow _)
              have B5 : Below W0.heap.size W0 w4 := (HB.out.alloc HB.out.size (.cells #[.int .i64 n] 3)).grown hgrow (by have := HB.out.size; simp; omega) (fun k hk => ((HR.out.alloc (.cells #[.int .i64 n] 3)).lt k hk).1)
              have B4 := hide (And.intro B5 hown4)
              clear B5 hown4 hgrow
              go_roundw
              case rel => exact ⟨m + 1, by omega, by go_num, B4.out.1, by rw [TE.out]; exact B4.out.2, E⟩
              case measure => simp [intOf]; omega
          · have e : m = row.length := by omega
            subst e
            rw [List.take_length] at hrow
            have HM2 := HM.out.to hb
            have hx1 := row_base hrow HM.out.own.1.size
            obtain ⟨R', c', rfl, _⟩ := row_slice2 hrow
            have hx0 : IR wr w.heap.size (.slice R' row.length c') (row.map (scD num den)) := by
              unfold IR
              rw [List.length_map]
              exact hx1
            have hv : wr.ownsRow w.heap.size 22 1 V k VL := by have := HM2.v; rwa [ROWE.out.2] at this
            have HV := hide hv
            have HM3 := hide (HM2.to ((Below.refl _ wr).alloc (Nat.le_refl _) (.cells #[.slice R' row.length c'] 22)))
            have HX := hide (hx0.alloc (.cells #[.slice R' row.length c'] 22))
            have E := hide (NOE.out (fun i hi => by have := hnob.out i hi; omega))
            have hr := HM2.own.r3
            clear hrow hb hnob hv hx0 hx1 HM2
            have f1 : k + 1 ≤ maxLen := by unfold maxLen; omega
            have f2 : (k + 1) * 24 ≤ 140737488355328 := by omega
            have f3 : w.heap.size ≤ (wr.alloc (.cells #[.slice R' row.length c'] 22)).heap.size := by have := HM3.out.own.1.size; exact this
            have f4 : ∀ u ∈ [Value.slice R' row.length c'], u.oneCell' = true := by simp [Value.oneCell']
            have LE := hide ROWE.out.2
            clear p2 rl
            go_wp2_with (at_builtin; refine wpList_append_lies _ rfl _ _ 23 rfl w.heap.size 22 j0 (.slice none 0 0) 1 24 Tryz.underlying23 hj0 hy0 hy1 hy2 rfl (by decide) _ k VL rfl (HV.out.alloc (.cells #[.slice R' row.length c'] 22)) ⟨wr.heap.size, 0, none⟩ 1 1 [.slice R' row.length c'] rfl rfl (World.news_of_block (cs := #[.slice R' row.length c']) (t := 22) (fr := (0, 0)) (heap_new_at19 (by rfl))) f4 (by decide) f1 f2 f3 (wr.heap.size + 1) (by simp) ?_; intro gg cp w4 hown4 hgrow hat4 hlt4; have hr4 := (HM3.out.own.grown HM3.out.v hgrow (by simp)).r3)
            have M5 := hide (HM3.out.app HX.out (by rw [LE.out]; exact hown4) hgrow)
            clear hown4 hgrow
            go_roundw
            case rel => exact ⟨k + 1, _, _, by omega, by go_num, by rw [ROWE.out.1]; exact M5.out, hide (fun i hi m hm => by have := E.out i hi m hm; omega)⟩
            case measure => simp [intOf]; omega
      · have e : k = T.rows.length := by omega
        subst e
        rw [List.take_length] at M
        have M1 := ((M.res 0 D).res 1 P).res 2 V
        have NB := hide (scB_no (fun i hi m hm => hno.out i hi m hm))
        obtain ⟨a', eD, eP, eV, ht'⟩ := M1.tab HT.out.1.1 HT.out.2.1.1 (sc_i64 VT'.out NN.out) (by rw [List.length_map]; unfold maxLen; omega)
        rw [List.length_map] at eV
        subst eD eP eV
        have HT' := hide ht'
        have Y := M.own
        have hr := Y.r3
        clear M M1 ht' hno rl p2
        go_wp2
        exact bodyPost_ret (v := .tuple #[.agg #[.slice a'.A1 T.ds.length a'.c1, .slice a'.A2 T.ps.length a'.c2, .slice a'.A3 T.rows.length a'.c3], .int .i64 0]) (by simp [results, Tryz.results13, hr, go_sem]) rfl ⟨by have HX := Y.1; have hz := HX.size; go_grown, .inl ⟨NB.out, a', by simp [scT], HT'.out⟩⟩
end Go.Proofs.YtnhimgabcljahaaGreatDoor
