/- In a fence: append with the new slice written out; what a callee keeps; the last steps of a range over a function. -/
import Derived.Test.YtaaadejamjbcbaaDoorGrw
import Derived.Test.YtaaadejamjbcbaaDoorRfBox
namespace Go.Proofs.YtaaadejamjbcbaaDoor
open Go Go.RowKit Go.Shelf

theorem row_formG {w : World} {base : Nat} {e : TypeId} {size n : Nat} {v : Value} {xs : List Value} (h : w.ownsRow base e size v n xs) (hn : 0 < n) : ∃ g c, v = .slice (some ⟨g, 0, none⟩) n c := by
  rcases h.2 with ⟨rfl, h0⟩ | ⟨g, cap, _, rfl, _⟩
  · omega
  · exact ⟨g, cap, rfl⟩
/-- append in a fence: the new slice written out -/
theorem wpListIn_append_formG {F : Fence} {n : Nat} {P : Program} (w : World) {ops : Array Oper} {rest : List Oper} {o : Oper} {a : Act} {Q : Exit → Act → World → Prop}
    (hg : o.guard = none) (s x : Operand) (t : TypeId) (hop : o.op = Op.call { callee := Callee.builtin Builtin.append, args := #[s, x], argTypes := #[t, t] })
    (base : Nat) (e : TypeId) (i : TypeInfo) (z : Value) (size bytes : Nat) (h1 : P.underlying t = some (.slice e)) (h2 : P.info? e = some i) (h3 : i.zero = some z) (h4 : i.size = size) (h5 : i.bytes = bytes) (h6 : z.cells.size = size) (h7 : 0 < size)
    (v : Value) (k : Nat) (xs : List Value) (hs : a.eval s = v) (hown : w.ownsRow base e size v k xs) (ad : Addr) (m c : Nat) (news : List Value) (hx : a.eval x = .slice (some ad) m c) (hn : news.length = m * size)
    (hc : ∀ j u, news[j]? = some u → w.cell? (ad.add j) = some u) (h1c : ∀ u ∈ news, u.oneCell' = true) (h0 : 0 < m) (b1 : k + m ≤ maxLen) (b2 : (k + m) * bytes ≤ 140737488355328) (b3 : base ≤ w.heap.size)
    (hK : ∀ g cap w', w'.ownsRow base e size (.slice (some ⟨g, 0, none⟩) (k + m) cap) (k + m) (xs ++ news) → w.grownBy w' v.ownBlock → wpListIn F n P ops Q rest (a.put o.dst (.slice (some ⟨g, 0, none⟩) (k + m) cap)) w') :
    wpListIn F n P ops Q (o :: rest) a w :=
  wpListIn_append_own w hg s x t hop base e i z size bytes h1 h2 h3 h4 h5 h6 h7 v k xs hs hown ad m c news hx hn hc h1c b1 b2 b3 (fun v' w' h g _ => by
    obtain ⟨g', c', rfl⟩ := row_formG h (by omega)
    exact hK _ _ _ h g)
theorem heap_new_atG {W : World} {o : Obj} {n : Nat} (h : W.heap.size = n) : (W.alloc o).heap[n]? = some o := by subst h; exact heap_alloc_new W o
theorem others_below {w w' : World} (h : Below w.heap.size w w') : KeepsOthers w w' := ⟨h.size, fun k _ hk _ => (h.block k (Array.getElem?_eq_some_iff.1 hk).1).trans hk⟩
theorem box_below {w w' : World} (h : Below w.heap.size w w') {k : Nat} (hk : k < w.heap.size) : w'.heap[k]? = w.heap[k]? := h.block k hk
/-- the three results are stored: a slice, a struct of two cells, a number -/
theorem Grw.three {e tv tp te tr : TypeId} {sz : Nat} {w wr : World} {B2 o ab eb pb rb : Nat} {v : Value} {n : Nat} {xs : List Value} {ta : TypeId} {ca : Array Value} {e0 p0 p1 r0 : Value}
    (h : Grw e tv sz w wr B2 o [(ab, ta, ca), (eb, te, #[e0]), (pb, tp, #[p0, p1]), (rb, tr, #[r0])] v n xs) (h1 : w.heap.size ≤ rb ∧ w.heap.size ≤ pb ∧ w.heap.size ≤ eb) (h2 : ab ≠ eb ∧ ab ≠ pb ∧ ab ≠ rb ∧ eb ≠ pb ∧ eb ≠ rb ∧ pb ≠ rb) (r l c er : Value) :
    Grw e tv sz w ((((wr.setCell ⟨rb, 0, none⟩ r).setCell ⟨pb, 0, none⟩ l).setCell ⟨pb, 1, none⟩ c).setCell ⟨eb, 0, none⟩ er) B2 o [(ab, ta, ca), (eb, te, #[er]), (pb, tp, #[l, c]), (rb, tr, #[r])] v n xs := by
  obtain ⟨a1, a2, a3⟩ := h1
  obtain ⟨b1, b2, b3, b4, b5, b6⟩ := h2
  have k1 := Grw.turnR (R1 := [(ab, ta, ca), (eb, te, #[e0]), (pb, tp, #[p0, p1])]) (R2 := []) h a1 (fun x hx => by
    simp only [List.append_nil, List.mem_cons, List.not_mem_nil, or_false] at hx
    rcases hx with rfl | rfl | rfl
    all_goals dsimp only
    all_goals assumption) 0 r (cs' := #[r]) rfl
  have k2 := Grw.turnR (R1 := [(ab, ta, ca), (eb, te, #[e0])]) (R2 := [(rb, tr, #[r])]) k1 a2 (fun x hx => by
    simp only [List.cons_append, List.nil_append, List.mem_cons, List.not_mem_nil, or_false] at hx
    rcases hx with rfl | rfl | rfl
    all_goals dsimp only
    all_goals first | assumption | exact Ne.symm (by assumption)) 0 l (cs' := #[l, p1]) rfl
  have k3 := Grw.turnR (R1 := [(ab, ta, ca), (eb, te, #[e0])]) (R2 := [(rb, tr, #[r])]) k2 a2 (fun x hx => by
    simp only [List.cons_append, List.nil_append, List.mem_cons, List.not_mem_nil, or_false] at hx
    rcases hx with rfl | rfl | rfl
    all_goals dsimp only
    all_goals first | assumption | exact Ne.symm (by assumption)) 1 c (cs' := #[l, c]) rfl
  exact Grw.turnR (R1 := [(ab, ta, ca)]) (R2 := [(pb, tp, #[l, c]), (rb, tr, #[r])]) k3 a3 (fun x hx => by
    simp only [List.cons_append, List.nil_append, List.mem_cons, List.not_mem_nil, or_false] at hx
    rcases hx with rfl | rfl | rfl
    all_goals dsimp only
    all_goals first | assumption | exact Ne.symm (by assumption)) 0 er (cs' := #[er]) rfl
theorem others_four (w : World) (a b c d : Addr) (r l k e : Value) : KeepsOthers w ((((w.setCell a r).setCell b l).setCell c k).setCell d e) :=
  (((KeepsOthers.setCell _ _ _).trans (KeepsOthers.setCell _ _ _)).trans (KeepsOthers.setCell _ _ _)).trans (KeepsOthers.setCell _ _ _)
/-- the rounds' deferred calls are taken -/
theorem Grw.taken {e tv : TypeId} {sz : Nat} {w wr : World} {B2 o D : Nat} {R : List (Nat × TypeId × Array Value)} {v : Value} {n : Nat} {xs : List Value} (h : Grw e tv sz w wr B2 o R v n xs) (hD : B2 ≤ D) (hK : wr.heap[D]? = some (.deferred (some []))) :
    Grw e tv sz w (wr.putObj D (.deferred none)) B2 o R v n xs :=
  h.turn (grownBy_putObj' wr D (.deferred none)) (fun r hr => by cases hr; exact ⟨hD, _, hK, rfl⟩)
end Go.Proofs.YtaaadejamjbcbaaDoor
