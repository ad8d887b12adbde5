/- A mixture of classes that are all alike, said of lists; two rows of the call's own that grow side by side. -/
import Derived.Test.YtljaibbmceknfaaMix
namespace Go.Proofs.Ytljaibbmceknfaa
open Go.RowKit

/-- the name of the class with a number: two letters -/
def kn (i : Nat) : ByteArray := ⟨#[107, UInt8.ofNat (97 + i)]⟩
def cN (c : Cls) (i : Nat) : Cls := ⟨kn i, c.se, c.we, c.ro, c.dr⟩
def numB (c : Cls) : Bool := inB c.se 1000 && inB c.we 100000 && inB c.ro 1000000 && inB c.dr 1000
def alike (c : Cls) (n : Nat) : List Cls := (List.range n).map (cN c)
theorem alike_succ (c : Cls) (n : Nat) : alike c (n + 1) = alike c n ++ [cN c n] := by simp [alike, List.range_succ]
theorem alike_length (c : Cls) (n : Nat) : (alike c n).length = n := by simp [alike]
theorem alike_at (c : Cls) (n i : Nat) (h : i < (alike c n).length) : (alike c n)[i] = cN c i := by simp [alike]
theorem kn_name : ∀ i, i < 16 → nameB (kn i).data.toList = true := by decide +kernel
theorem kn_size (i : Nat) : (kn i).size = 2 := rfl
theorem kn_same : ∀ i, i < 16 → ∀ j, j < 16 → (sameS (kn i) (kn j) = true ↔ i = j) := by decide +kernel
theorem rightB_cN (c : Cls) {i : Nat} (h : i < 16) : rightB (cN c i) = numB c := by simp [rightB, cN, kn_name i h, numB]
theorem find_alike (c : Cls) (n i : Nat) (hn : n ≤ 16) (hi : i < n) : findI (alike c n) (kn i) = i := by
  refine findI_yes (by rw [alike_length]; exact hi) (fun j hj hji => ?_) ?_
  · rw [alike_at]
    have := kn_same j (by rw [alike_length] at hj; omega) i (by omega)
    cases e : sameS (cN c j).nm (kn i)
    · rfl
    · have := this.1 e; omega
  · rw [alike_at]; exact sameS_self _
theorem valid_alike (c : Cls) (n : Nat) (h1 : 1 ≤ n) (h2 : n ≤ 16) : validB (alike c n) = numB c := by
  cases e : numB c
  · refine validB_not (i := 0) (by rw [alike_length]; omega) ?_
    rw [okAt_get (by rw [alike_length]; omega), alike_at, rightB_cN c (by omega), e]; rfl
  · refine validB_yes (by rw [alike_length]; omega) (by rw [alike_length]; omega) (fun i hi => ?_)
    have hi' : i < n := by rw [alike_length] at hi; exact hi
    rw [okAt_get hi, alike_at, rightB_cN c (by omega), e]
    have : findI (alike c n) (cN c i).nm = i := find_alike c n i h2 hi'
    rw [this]; simp
theorem holds_cN (c : Cls) (s : Sto) (i : Nat) : holdsB (cN c i) s = holdsB c s := rfl
theorem stoOk_alike (c : Cls) (s : Sto) (n : Nat) (h : 1 ≤ n) : stoOkB (alike c n) (List.replicate n s) = holdsB c s := by
  cases e : holdsB c s
  · refine stoOk_not (k := 0) (by rw [alike_length]; omega) (by simp; omega) ?_
    rw [alike_at, List.getElem_replicate, holds_cN, e]
  · refine stoOk_yes (fun k h1 h2 => ?_)
    rw [alike_at, List.getElem_replicate, holds_cN, e]
/-- areas in range: none above a sixteenth of the greatest -/
def smallA (ar : List Int) : Prop := ∀ i (h : i < ar.length), 0 ≤ ar[i] ∧ ar[i] ≤ 67108864
theorem area_small {ar : List Int} (h : smallA ar) : areaB ar = true := area_yes (fun k hk => inB_iff.2 (by have := h k hk; omega))
theorem sum_small {ar : List Int} (h : smallA ar) : ∀ k, k ≤ ar.length → 0 ≤ (ar.take k).sum ∧ (ar.take k).sum ≤ k * 67108864
  | 0, _ => by simp
  | k + 1, hk => by
    have i := sum_small h k (by omega)
    have j := h k (by omega)
    rw [sum_take ar k (by omega)]
    omega
theorem mixE_alike (c : Cls) (s : Sto) (ar : List Int) (d t : Int) (h1 : 1 ≤ ar.length) (h2 : ar.length ≤ 16) (ha : smallA ar) :
    mixE (alike c ar.length) ar (List.replicate ar.length s) d t = if numB c = true then (if holdsB c s = true then (if inB d 4194304 = true ∧ lenB t = true then 0 else 2) else 1) else 1 := by
  have e := sum_small ha ar.length (Nat.le_refl _)
  rw [List.take_length] at e
  unfold mixE
  rw [valid_alike c _ h1 h2, stoOk_alike c s _ h1, area_small ha, alike_length, List.length_replicate]
  have : ar.sum ≤ 1073741824 := by omega
  simp [this]
theorem mixE_one (c : Cls) (s : Sto) (x d t : Int) (hx : 0 ≤ x) (hx' : x ≤ 1073741824) :
    mixE [cN c 0] [x] [s] d t = if numB c = true then (if holdsB c s = true then (if inB d 4194304 = true ∧ lenB t = true then 0 else 2) else 1) else 1 := by
  unfold mixE
  rw [validB_one, rightB_cN c (by omega)]
  have h1 : stoOkB [cN c 0] [s] = holdsB c s := by simp [stoOkB, holds_cN]
  have h2 : areaB [x] = true := by simp [areaB, inB, hx, hx']
  rw [h1, h2]
  simp [hx']
theorem mix0 {c : Cls} {s : Sto} {d t : Int} (h : (0 : Int) = if numB c = true then (if holdsB c s = true then (if inB d 4194304 = true ∧ lenB t = true then 0 else 2) else 1) else 1) :
    numB c = true ∧ holdsB c s = true ∧ inB d 4194304 = true ∧ lenB t = true := by
  by_cases h1 : numB c = true <;> by_cases h2 : holdsB c s = true <;> by_cases h3 : inB d 4194304 = true ∧ lenB t = true <;> simp [h1, h2, h3] at h
  exact ⟨h1, h2, h3.1, h3.2⟩
theorem run_cN (c : Cls) (s : Sto) (d : Int) (i : Nat) : runoff (cN c i) s d = runoff c s d := rfl
theorem step_cN (c : Cls) (s : Sto) (d t : Int) (i : Nat) : stepS (cN c i) s d t = stepS c s d t := rfl
theorem mixS_alike (c : Cls) (s : Sto) (d t : Int) : ∀ (L : List Nat), mixS d t (L.map (cN c)) (List.replicate L.length s) = List.replicate L.length (stepS c s d t)
  | [] => rfl
  | a :: L => by
    simp only [List.map_cons, List.length_cons, List.replicate_succ, mixS, mixS_alike c s d t L, step_cN]
theorem mixV_alike (c : Cls) (s : Sto) (d : Int) : ∀ (L : List Nat) (ar : List Int), L.length = ar.length → mixV d (L.map (cN c)) ar (List.replicate L.length s) = ar.sum * runoff c s d
  | [], [], _ => by simp [mixV]
  | a :: L, x :: ar, h => by
    simp only [List.map_cons, List.length_cons, List.replicate_succ, mixV, mixV_alike c s d L ar (by simpa using h), run_cN, List.sum_cons, Int.add_mul]
  | [], _ :: _, h => by simp at h
  | _ :: _, [], h => by simp at h

/-- the cells of a list of classes -/
def flatC : List Cls → List Value
  | [] => []
  | c :: l => .string c.nm :: .int .i64 c.se :: .int .i64 c.we :: .int .i64 c.ro :: .int .i64 c.dr :: flatC l
theorem flatC_length : ∀ l : List Cls, (flatC l).length = l.length * 5
  | [] => rfl
  | s :: l => by simp only [flatC, List.length_cons, flatC_length l]; omega
theorem flatC_append : ∀ (l : List Cls) (c : Cls), flatC (l ++ [c]) = flatC l ++ [.string c.nm, .int .i64 c.se, .int .i64 c.we, .int .i64 c.ro, .int .i64 c.dr]
  | [], _ => rfl
  | x :: l, s => by simp only [flatC, List.cons_append, flatC_append l s]
theorem flatC_at : ∀ (l : List Cls) (i : Nat) (h : i < l.length), (flatC l)[i * 5]? = some (.string l[i].nm) ∧ (flatC l)[i * 5 + 1]? = some (.int .i64 l[i].se) ∧ (flatC l)[i * 5 + 2]? = some (.int .i64 l[i].we) ∧
      (flatC l)[i * 5 + 3]? = some (.int .i64 l[i].ro) ∧ (flatC l)[i * 5 + 4]? = some (.int .i64 l[i].dr)
  | [], _, h => by simp at h
  | s :: l, 0, _ => ⟨rfl, rfl, rfl, rfl, rfl⟩
  | s :: l, i + 1, h => by
    have k := flatC_at l i (by simpa using h)
    have e : (i + 1) * 5 = i * 5 + 1 + 1 + 1 + 1 + 1 := by omega
    rw [e]
    exact k
theorem ClsSl.of_row {w : World} {base : Nat} {e : TypeId} {A : Option Addr} {m c n : Nat} {l : List Cls} (h : w.ownsRow base e 5 (.slice A m c) n (flatC l)) (hb : l.length ≤ maxLen) (hn : ∀ i (h : i < l.length), l[i].nm.size ≤ maxLen) : m = l.length ∧ ClsSl w A l := by
  have hl : l.length = n := by have := h.1; rw [flatC_length] at this; omega
  rcases h.2 with ⟨e', h0⟩ | ⟨g, cap, cur, e', hg, hcell, hnc, _, hsz, htake⟩
  · injection e' with e1 e2 e3
    rw [h0] at hl
    have : l = [] := List.eq_nil_of_length_eq_zero hl
    subst this
    exact ⟨e2, ⟨by simp, fun i h => by simp at h⟩, fun h => by simp at h⟩
  · injection e' with e1 e2 e3
    subst hl e1
    refine ⟨e2, ⟨hb, hn⟩, fun _ => ⟨g, 0, rfl, (Array.getElem?_eq_some_iff.1 hcell).1, fun i hi => ?_⟩⟩
    obtain ⟨k0, k1, k2, k3, k4⟩ := flatC_at l i hi
    have c0 := h.cells (g := g) rfl (i * 5) _ k0
    have c1 := h.cells (g := g) rfl (i * 5 + 1) _ k1
    have c2 := h.cells (g := g) rfl (i * 5 + 2) _ k2
    have c3 := h.cells (g := g) rfl (i * 5 + 3) _ k3
    have c4 := h.cells (g := g) rfl (i * 5 + 4) _ k4
    have ea : ∀ j, (⟨g, 0, none⟩ : Addr).add j = ⟨g, 0 + j, none⟩ := fun j => by unfold Addr.add; split <;> simp_all
    rw [ea] at c0 c1 c2 c3 c4
    exact ⟨c0, c1, c2, c3, c4⟩
/-- a row as a slice value -/
theorem row_slice {w : World} {base : Nat} {e : TypeId} {size n : Nat} {v : Value} {xs : List Value} (h : w.ownsRow base e size v n xs) : ∃ A c, v = .slice A n c := by
  rcases h.2 with ⟨rfl, rfl⟩ | ⟨g, cp, cur, rfl, _⟩
  · exact ⟨_, _, rfl⟩
  · exact ⟨_, _, rfl⟩

/-- two rows of the call's own, beside boxes of its own -/
def Two (w W : World) (L : List (Nat × TypeId × Array Value)) (e1 e2 : TypeId) (z1 z2 : Nat) (v1 : Value) (n1 : Nat) (x1 : List Value) (v2 : Value) (n2 : Nat) (x2 : List Value) : Prop :=
  Own w W L ∧ W.ownsRow w.heap.size e1 z1 v1 n1 x1 ∧ W.ownsRow w.heap.size e2 z2 v2 n2 x2 ∧ ∀ x ∈ L, v1.ownBlock ≠ some x.1 ∧ v2.ownBlock ≠ some x.1
section
variable {w W W' : World} {L : List (Nat × TypeId × Array Value)} {e1 e2 : TypeId} {z1 z2 n1 n2 : Nat} {v1 v2 : Value} {x1 x2 : List Value}
theorem Two.drew (h : Two w W L e1 e2 z1 z2 v1 n1 x1 v2 n2 x2) : Two w W.drew L e1 e2 z1 z2 v1 n1 x1 v2 n2 x2 := ⟨h.1.drew, h.2.1, h.2.2.1, h.2.2.2⟩
theorem Two.to (h : Two w W L e1 e2 z1 z2 v1 n1 x1 v2 n2 x2) (hb : Below W.heap.size W W') : Two w W' L e1 e2 z1 z2 v1 n1 x1 v2 n2 x2 := ⟨h.1.to hb, row_below h.2.1 hb, row_below h.2.2.1 hb, h.2.2.2⟩
theorem Two.alloc (h : Two w W L e1 e2 z1 z2 v1 n1 x1 v2 n2 x2) (cs : Array Value) (t : TypeId) : Two w (W.alloc (.cells cs t)) ((W.heap.size, t, cs) :: L) e1 e2 z1 z2 v1 n1 x1 v2 n2 x2 :=
  ⟨h.1.alloc cs t, h.2.1.alloc _, h.2.2.1.alloc _, fun x hx => by
    rcases List.mem_cons.1 hx with rfl | hx
    · exact ⟨fun e => Nat.lt_irrefl _ (h.2.1.lt _ e).2, fun e => Nat.lt_irrefl _ (h.2.2.1.lt _ e).2⟩
    · exact h.2.2.2 x hx⟩
theorem Two.set0 {b : Nat} {t : TypeId} {cs : Array Value} (h : Two w W ((b, t, cs) :: L) e1 e2 z1 z2 v1 n1 x1 v2 n2 x2) (hb : w.heap.size ≤ b) (hn : ∀ x ∈ L, x.1 ≠ b) (i : Nat) (u : Value) :
    Two w (W.setCell ⟨b, i, none⟩ u) ((b, t, cs.setIfInBounds i u) :: L) e1 e2 z1 z2 v1 n1 x1 v2 n2 x2 :=
  ⟨h.1.set0 hb hn i u, row_setN h.2.1 (h.2.2.2 _ (List.mem_cons_self ..)).1 i u, row_setN h.2.2.1 (h.2.2.2 _ (List.mem_cons_self ..)).2 i u, fun x hx => by
    rcases List.mem_cons.1 hx with rfl | hx
    · exact h.2.2.2 (b, t, cs) (List.mem_cons_self ..)
    · exact h.2.2.2 x (List.mem_cons_of_mem _ hx)⟩
theorem Two.tail {x : Nat × TypeId × Array Value} (h : Two w W (x :: L) e1 e2 z1 z2 v1 n1 x1 v2 n2 x2) : Two w W L e1 e2 z1 z2 v1 n1 x1 v2 n2 x2 := ⟨h.1.tail, h.2.1, h.2.2.1, fun y hy => h.2.2.2 y (List.mem_cons_of_mem _ hy)⟩
theorem Two.swap {x y : Nat × TypeId × Array Value} (h : Two w W (x :: y :: L) e1 e2 z1 z2 v1 n1 x1 v2 n2 x2) : Two w W (y :: x :: L) e1 e2 z1 z2 v1 n1 x1 v2 n2 x2 :=
  ⟨h.1.swap, h.2.1, h.2.2.1, fun z hz => h.2.2.2 z (by
    rcases List.mem_cons.1 hz with rfl | hz
    · simp
    · rcases List.mem_cons.1 hz with rfl | hz
      · simp
      · simp [hz])⟩
theorem Two.flip (h : Two w W L e1 e2 z1 z2 v1 n1 x1 v2 n2 x2) : Two w W L e2 e1 z2 z1 v2 n2 x2 v1 n1 x1 := ⟨h.1, h.2.2.1, h.2.1, fun x hx => (h.2.2.2 x hx).symm⟩
theorem rows_ne (h1 : W.ownsRow w.heap.size e1 z1 v1 n1 x1) (h2 : W.ownsRow w.heap.size e2 z2 v2 n2 x2) (hne : e1 ≠ e2) : v2.ownBlock = none ∨ v2.ownBlock ≠ v1.ownBlock := by
  rcases h2.2 with ⟨rfl, _⟩ | ⟨g, cap, cur, rfl, _, hh, _⟩
  · exact .inl rfl
  · refine .inr fun e => ?_
    rcases h1.2 with ⟨rfl, _⟩ | ⟨g', cap', cur', rfl, _, hh', _⟩
    · simp [Value.ownBlock] at e
    · simp only [Value.ownBlock, Option.some.injEq] at e
      subst e
      rw [hh] at hh'
      injection hh' with q
      injection q with _ q
      exact hne q.symm
/-- the first row has grown -/
theorem Two.app1 {v1' : Value} {n1' : Nat} {x1' : List Value} (h : Two w W L e1 e2 z1 z2 v1 n1 x1 v2 n2 x2) (hne : e1 ≠ e2) (hown : W'.ownsRow w.heap.size e1 z1 v1' n1' x1') (hg : W.grownBy W' v1.ownBlock)
    (hor : v1'.ownBlock = v1.ownBlock ∨ v1'.ownBlock = some W.heap.size) : Two w W' L e1 e2 z1 z2 v1' n1' x1' v2 n2 x2 :=
  ⟨⟨h.1.1.grown hg h.1.1.size (fun k hk => (h.2.1.lt k hk).1), fun x hx => (h.1.2 x hx).grown hg (fun e => (h.2.2.2 x hx).1 e.symm)⟩, hown,
    h.2.2.1.kept hg (rows_ne h.2.1 h.2.2.1 hne), fun x hx => ⟨by
      rcases hor with e | e
      · rw [e]; exact (h.2.2.2 x hx).1
      · rw [e]; intro e'; injection e' with e'; have := (h.1.2 x hx).lt; omega, (h.2.2.2 x hx).2⟩⟩
theorem Two.app2 {v2' : Value} {n2' : Nat} {x2' : List Value} (h : Two w W L e1 e2 z1 z2 v1 n1 x1 v2 n2 x2) (hne : e2 ≠ e1) (hown : W'.ownsRow w.heap.size e2 z2 v2' n2' x2') (hg : W.grownBy W' v2.ownBlock)
    (hor : v2'.ownBlock = v2.ownBlock ∨ v2'.ownBlock = some W.heap.size) : Two w W' L e1 e2 z1 z2 v1 n1 x1 v2' n2' x2' := (h.flip.app1 hne hown hg hor).flip
end
theorem reads_of_blk {W : World} {g : Nat} {t : TypeId} {cs : Array Value} {m size : Nat} {l : List Value} (h : Blk W g t cs) (hl : cs.toList = l) (hm : l.length = m * size) : Reads W (g + 1) size (some ⟨g, 0, none⟩) m l := by
  subst hl
  refine ⟨hm, fun _ => ⟨_, rfl, Nat.lt_succ_self g, fun j u hu => ?_⟩⟩
  have ea : (⟨g, 0, none⟩ : Addr).add j = ⟨g, j, none⟩ := by unfold Addr.add; split <;> simp_all
  rw [ea, h.cell j]
  simpa using hu
/-- an append to the first row, as a step of a region -/
theorem Two.step1 {P : Program} {w W : World} {L : List (Nat × TypeId × Array Value)} {e1 e2 : TypeId} {z1 z2 n1 n2 : Nat} {v1 v2 : Value} {x1 x2 : List Value} {ops : Array Oper} {o : Oper} {a : Act} {K : Act → World → Prop} {Q : Exit → Act → World → Prop} {E : Prop}
    (T : Two w W L e1 e2 z1 z2 v1 n1 x1 v2 n2 x2) (hne : e1 ≠ e2) {g : Nat} {tb : TypeId} {cs : Array Value} (hB : Blk W g tb cs) (news : List Value) (hcs : cs.toList = news) (hsz : news.length = 1 * z1)
    (hgd : o.guard = none) (s x : Operand) (t : TypeId) (ho : o.op = .call { callee := .builtin .append, args := #[s, x], argTypes := #[t, t] })
    (i : TypeInfo) (z : Value) (bytes : Nat) (ht : P.underlying t = some (.slice e1)) (hi : P.info? e1 = some i) (hz : i.zero = some z)
    (hsize : i.size = z1) (hby : i.bytes = bytes) (hzs : z.cells.size = z1) (hpos : 0 < z1) (hs : a.eval s = v1) (hx : a.eval x = .slice (some ⟨g, 0, none⟩) 1 1) (h1 : ∀ u ∈ news, u.oneCell' = true)
    (h63 : n1 + 1 ≤ maxLen) (hbytes : (n1 + 1) * bytes ≤ 140737488355328)
    (h : ∀ v' w', Two w w' L e1 e2 z1 z2 v' (n1 + 1) (x1 ++ news) v2 n2 x2 → K (a.put o.dst v') w') :
    if Region.wanted o (yielded ops a.tmps) = true then Oper.wp P o a W K Q else E :=
  step_append_any W hgd s x t ho w.heap.size e1 i z z1 bytes ht hi hz hsize hby hzs hpos v1 n1 x1 hs T.2.1 (g + 1) _ 1 1 news hx (reads_of_blk hB hcs hsz) h1 h63 hbytes T.1.1.size fun v' w' hown hg hor => h v' w' (T.app1 hne hown hg hor)
theorem Two.step2 {P : Program} {w W : World} {L : List (Nat × TypeId × Array Value)} {e1 e2 : TypeId} {z1 z2 n1 n2 : Nat} {v1 v2 : Value} {x1 x2 : List Value} {ops : Array Oper} {o : Oper} {a : Act} {K : Act → World → Prop} {Q : Exit → Act → World → Prop} {E : Prop}
    (T : Two w W L e1 e2 z1 z2 v1 n1 x1 v2 n2 x2) (hne : e2 ≠ e1) {g : Nat} {tb : TypeId} {cs : Array Value} (hB : Blk W g tb cs) (news : List Value) (hcs : cs.toList = news) (hsz : news.length = 1 * z2)
    (hgd : o.guard = none) (s x : Operand) (t : TypeId) (ho : o.op = .call { callee := .builtin .append, args := #[s, x], argTypes := #[t, t] })
    (i : TypeInfo) (z : Value) (bytes : Nat) (ht : P.underlying t = some (.slice e2)) (hi : P.info? e2 = some i) (hz : i.zero = some z)
    (hsize : i.size = z2) (hby : i.bytes = bytes) (hzs : z.cells.size = z2) (hpos : 0 < z2) (hs : a.eval s = v2) (hx : a.eval x = .slice (some ⟨g, 0, none⟩) 1 1) (h1 : ∀ u ∈ news, u.oneCell' = true)
    (h63 : n2 + 1 ≤ maxLen) (hbytes : (n2 + 1) * bytes ≤ 140737488355328)
    (h : ∀ v' w', Two w w' L e1 e2 z1 z2 v1 n1 x1 v' (n2 + 1) (x2 ++ news) → K (a.put o.dst v') w') :
    if Region.wanted o (yielded ops a.tmps) = true then Oper.wp P o a W K Q else E :=
  T.flip.step1 hne hB news hcs hsz hgd s x t ho i z bytes ht hi hz hsize hby hzs hpos hs hx h1 h63 hbytes fun v' w' T' => h v' w' T'.flip
theorem two_keep {w W : World} {L : List (Nat × TypeId × Array Value)} {e1 e2 : TypeId} {z1 z2 n1 n2 : Nat} {v1 v2 : Value} {x1 x2 : List Value} {b1 b2 : Nat} {t1 t2 : TypeId} {u0 u1 u2 u3 u4 y0 y1 : Value}
    (T : Two w W L e1 e2 z1 z2 v1 n1 x1 v2 n2 x2) (h1 : (b1, t1, #[u0, u1, u2, u3, u4]) ∈ L) (h2 : (b2, t2, #[y0, y1]) ∈ L) :
    W.cell? ⟨b1, 0, none⟩ = some u0 ∧ W.cell? ⟨b1, 1, none⟩ = some u1 ∧ W.cell? ⟨b1, 2, none⟩ = some u2 ∧ W.cell? ⟨b1, 3, none⟩ = some u3 ∧ W.cell? ⟨b1, 4, none⟩ = some u4 ∧ W.cell? ⟨b2, 0, none⟩ = some y0 ∧ W.cell? ⟨b2, 1, none⟩ = some y1 :=
  ⟨(T.1.2 _ h1).cell 0, (T.1.2 _ h1).cell 1, (T.1.2 _ h1).cell 2, (T.1.2 _ h1).cell 3, (T.1.2 _ h1).cell 4, (T.1.2 _ h2).cell 0, (T.1.2 _ h2).cell 1⟩
end Go.Proofs.Ytljaibbmceknfaa
