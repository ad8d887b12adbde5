/- What the program's Parse of a table holds: the lines' numbers, the periods' and the depths' rows in the making, and its boxes. -/
import Derived.Test.YtnhimgabcljahaaGreatDoorItNs
import Derived.Test.YtnhimgabcljahaaGreatDoorItSl
import Derived.Test.YtnhimgabcljahaaGreatDoorGrw
namespace Go.Proofs.YtnhimgabcljahaaGreatDoor
open Go Go.RowKit

/-- the numbers of a line in a block that is not that of P -/
def LineG (W : World) (B : Nat) (P : Value) (g : Nat) (l : List Int) : Prop := B ≤ g ∧ ∃ cur, Blk W g 3 cur ∧ cur.toList.take l.length = l.map (Value.int .i64) ∧ P.ownBlock ≠ some g
/-- a slice of them from off on -/
def LineAt (W : World) (B : Nat) (P : Value) (off : Nat) (x : Value) (l : List Int) : Prop :=
  ∃ (g : Nat) (A : Option Addr) (c : Nat), (x = .slice A (l.length - off) c ∧ (off < l.length → A = some ⟨g, off, none⟩) ∧ l.length - off ≤ c) ∧ LineG W B P g l
section
variable {W W' : World} {B off g : Nat} {P P' x : Value} {l : List Int}
theorem LineG.lt (h : LineG W B P g l) : g < W.heap.size := by obtain ⟨_, cur, h2, _⟩ := h; exact h2.lt
theorem LineG.to (h : LineG W B P g l) (hb : Below W.heap.size W W') : LineG W' B P g l := by
  obtain ⟨h1, cur, h2, h3⟩ := h
  exact ⟨h1, cur, h2.below hb h2.lt, h3⟩
/-- another block is turned -/
theorem LineG.grown {row : Option Nat} (h : LineG W B P g l) (hg : W.grownBy W' row) (hne : ∀ cur, B ≤ g → Blk W g 3 cur → P.ownBlock ≠ some g → row ≠ some g) : LineG W' B P g l := by
  obtain ⟨h1, cur, h2, h3, h4⟩ := h
  exact ⟨h1, cur, h2.grown hg (fun e => hne cur h1 h2 h4 e.symm), h3, h4⟩
theorem LineG.appP (h : LineG W B P g l) (hg : W.grownBy W' P.ownBlock) (ho : P'.ownBlock = P.ownBlock ∨ P'.ownBlock = some W.heap.size) : LineG W' B P' g l := by
  obtain ⟨h1, cur, h2, h3, h4⟩ := h
  refine ⟨h1, cur, h2.grown hg (fun e => h4 e.symm), h3, ?_⟩
  rcases ho with ho | ho
  · rw [ho]; exact h4
  · rw [ho]
    intro e
    injection e with e
    have := h2.lt
    omega
theorem LineG.appV {V : Value} {n : Nat} {xs : List Value} (h : LineG W B P g l) (hv : W.ownsRow B 22 1 V n xs) (hg : W.grownBy W' V.ownBlock) : LineG W' B P g l :=
  h.grown hg (fun _ _ hh _ => own_blk_ne hv hh (by decide))
theorem LineG.cell (h : LineG W B P g l) (i : Nat) (hi : i < l.length) : W.cell? ⟨g, i, none⟩ = some (.int .i64 l[i]) := by
  obtain ⟨h1, cur, h2, h3, h4⟩ := h
  rw [h2.cell]
  have : (cur.toList.take l.length)[i]? = some (.int .i64 l[i]) := by rw [h3]; simp [hi]
  rw [List.getElem?_take, if_pos hi] at this
  simpa using this
theorem LineAt.map {W' : World} (h : LineAt W B P off x l) (k : ∀ g, LineG W B P g l → LineG W' B P' g l) : LineAt W' B P' off x l := by
  obtain ⟨g, A, c, e, hg⟩ := h
  exact ⟨g, A, c, e, k g hg⟩
/-- numbers in new memory -/
theorem LineG.new {A : Option Addr} {c n0 : Nat} {ps : List Value} (h : W'.ownsRow W.heap.size 3 1 (.slice A l.length c) l.length (l.map (Value.int .i64))) (h0 : 0 < l.length) (hB : B ≤ W.heap.size) (hP : W.ownsRow B 3 1 P n0 ps) :
    ∃ g, A = some ⟨g, 0, none⟩ ∧ l.length ≤ c ∧ LineG W' B P g l := by
  rcases h.2 with ⟨_, h1⟩ | ⟨g, cap, cur, e, hg, hh, hn, hm, hs, ht⟩
  · omega
  · injection e with e1 e2 e3
    subst e1 e3
    rw [Nat.mul_one] at ht
    refine ⟨g, rfl, hn, by omega, cur, hh, ht, fun e => ?_⟩
    have := (hP.lt g e).2
    omega
theorem LineG.slice (h : LineG W B P g l) {A : Option Addr} {c : Nat} (hA : off < l.length → A = some ⟨g, off, none⟩) (hc : l.length - off ≤ c) : LineAt W B P off (.slice A (l.length - off) c) l := ⟨g, A, c, ⟨rfl, hA, hc⟩, h⟩
theorem LineAt.sl (h : LineAt W B P off x l) (hl : l.length ≤ 9223372036854775807) (hr : ∀ n ∈ l, numR n) : ∃ A c, x = .slice A (l.drop off).length c ∧ IntSl W A (l.drop off) ∧ (l.drop off).length ≤ c := by
  obtain ⟨g, A, c, ⟨rfl, e2, e3⟩, hg⟩ := h
  refine ⟨A, c, by rw [List.length_drop], ⟨⟨by rw [List.length_drop]; omega, fun i hi => ?_⟩, fun h0 => ⟨g, off, e2 (by rw [List.length_drop] at h0; omega), hg.lt, fun i hi => ?_⟩⟩, by rw [List.length_drop]; omega⟩
  · have := hr _ (List.mem_of_mem_drop (List.getElem_mem hi))
    unfold numR at this
    omega
  · rw [List.length_drop] at hi
    rw [List.getElem_drop]
    exact hg.cell (off + i) (by omega)
end
/-- what is no cells, and the block b, lie as they lay -/
structure Kp (b : Nat) (W W' : World) : Prop where
  o : KeepsOthers W W'
  k : W'.heap[b]? = W.heap[b]?
theorem Kp.trans {b : Nat} {A B C : World} (h : Kp b A B) (k : Kp b B C) : Kp b A C := ⟨h.o.trans k.o, k.k.trans h.k⟩
theorem Kp.below {b : Nat} {W W' : World} (hb : Below W.heap.size W W') (h : b < W.heap.size) : Kp b W W' := ⟨⟨hb.size, fun k _ hk _ => (hb.block k (Array.getElem?_eq_some_iff.1 hk).1).trans hk⟩, hb.block b h⟩
theorem Kp.row {b B : Nat} {W W' : World} {e : TypeId} {sz n : Nat} {v : Value} {xs : List Value} (hr : W.ownsRow B e sz v n xs) (hg : W.grownBy W' v.ownBlock) (h : b < B) (hl : b < W.heap.size) : Kp b W W' := by
  refine ⟨KeepsOthers.of_grownBy hg fun j x ej hj => ?_, hg.block b hl (fun e => by have := (hr.lt b e.symm).1; omega)⟩
  rcases hr.2 with ⟨rfl, _⟩ | ⟨g, cap, cur, rfl, _, hgb, _⟩
  · simp [Value.ownBlock] at ej
  · obtain rfl : g = j := by simpa [Value.ownBlock] using ej
    rw [hgb] at hj; cases hj; rfl
theorem Kp.set {b : Nat} (W : World) (p : Nat) (i : Nat) (u : Value) (h : b ≠ p) : Kp b W (W.setCell ⟨p, i, none⟩ u) := ⟨KeepsOthers.setCell _ _ _, Below.heap_setCell W ⟨p, i, none⟩ u b h⟩
/-- the table in the making: R the boxes, D the durations' slice, P the periods' row, V the depths' row -/
structure Pg (w W : World) (B : Nat) (R : List (Nat × TypeId × Array Value)) (D P V : Value) (d0 : Option (List Int)) (ps : List Int) (VL : List Value) (rs : List (List Int)) : Prop where
  own : Own w W R
  b2 : B ≤ W.heap.size ∧ w.heap.size ≤ B
  ltR : ∀ x ∈ R, x.1 < B ∧ 3 ≠ x.2.1 ∧ 22 ≠ x.2.1
  d : (d0 = none ∧ D = .slice none 0 0) ∨ ∃ l, d0 = some l ∧ LineAt W B P 0 D l
  p : W.ownsRow B 3 1 P ps.length (ps.map (Value.int .i64))
  v : W.ownsRow B 22 1 V VL.length VL
  r : rs.length = VL.length ∧ ∀ i (h : i < VL.length), LineAt W B P 1 VL[i] (rs.getD i [])
section
variable {w W W' : World} {B : Nat} {R R1 R2 : List (Nat × TypeId × Array Value)} {D P V : Value} {d0 : Option (List Int)} {ps : List Int} {VL : List Value} {rs : List (List Int)}
theorem Pg.to (h : Pg w W B R D P V d0 ps VL rs) (hb : Below W.heap.size W W') : Pg w W' B R D P V d0 ps VL rs :=
  ⟨h.own.to hb, ⟨Nat.le_trans h.b2.1 hb.size, h.b2.2⟩, h.ltR, h.d.imp id (fun ⟨l, e, hl⟩ => ⟨l, e, hl.map fun _ k => k.to hb⟩), row_below h.p hb, row_below h.v hb, h.r.1, fun i hi => (h.r.2 i hi).map fun _ k => k.to hb⟩
theorem Pg.alloc (h : Pg w W B R D P V d0 ps VL rs) (x : Obj) : Pg w (W.alloc x) B R D P V d0 ps VL rs := h.to ((Below.refl _ _).alloc (Nat.le_refl _) x)
theorem Pg.drew (h : Pg w W B R D P V d0 ps VL rs) : Pg w W.drew B R D P V d0 ps VL rs := h.to ((Below.refl W.heap.size W).drew)
/-- a block that is none of ours is turned -/
theorem Pg.other {row : Option Nat} (h : Pg w W B R D P V d0 ps VL rs) (hg : W.grownBy W' row) (h1 : ∀ k, row = some k → w.heap.size ≤ k) (h2 : ∀ x ∈ R, row ≠ some x.1) (h3 : ∀ g t cur, B ≤ g → Blk W g t cur → row ≠ some g) : Pg w W' B R D P V d0 ps VL rs := by
  have rw_ : ∀ {e n v xs}, W.ownsRow B e 1 v n xs → W'.ownsRow B e 1 v n xs := fun {e n v xs} k => by
    refine k.kept hg ?_
    rcases k.2 with ⟨rfl, _⟩ | ⟨g, cap, cur, rfl, hB, hh, _⟩
    · exact .inl rfl
    · exact .inr (fun e => h3 g _ cur hB hh e.symm)
  exact ⟨⟨h.own.1.grown hg h.own.1.size h1, fun x hx => (h.own.2 x hx).grown hg (fun e => h2 x hx e.symm)⟩, ⟨Nat.le_trans h.b2.1 hg.size, h.b2.2⟩, h.ltR,
    h.d.imp id (fun ⟨l, e, hl⟩ => ⟨l, e, hl.map fun g k => k.grown hg (fun cur hB hh _ => h3 g _ cur hB hh)⟩), rw_ h.p, rw_ h.v, h.r.1, fun i hi => (h.r.2 i hi).map fun g k => k.grown hg (fun cur hB hh _ => h3 g _ cur hB hh)⟩
theorem Pg.turn {row : Option Nat} (h : Pg w W B R D P V d0 ps VL rs) (hg : W.grownBy W' row) (hr : ∀ r, row = some r → B ≤ r ∧ ∃ x : Obj, W.heap[r]? = some x ∧ x.isCells = false) : Pg w W' B R D P V d0 ps VL rs :=
  h.other hg (fun k hk => Nat.le_trans h.b2.2 (hr k hk).1) (fun x hx e => by have := (hr _ e).1; have := (h.ltR x hx).1; omega) (fun g t cur _ hh e => by
    obtain ⟨_, x, hx, hc⟩ := hr g e
    unfold Blk at hh
    rw [hh] at hx; cases hx; cases hc)
theorem Pg.box {b : Nat} (h : Pg w W B R D P V d0 ps VL rs) (hg : W.grownBy W' (some b)) (hb : w.heap.size ≤ b) (hB : b < B) (hR : ∀ x ∈ R, x.1 ≠ b) : Pg w W' B R D P V d0 ps VL rs :=
  h.other hg (fun k hk => by injection hk with hk; omega) (fun x hx e => by injection e with e; exact hR x hx e.symm) (fun g t cur hg' _ e => by injection e with e; omega)
/-- one of the boxes is turned -/
theorem Pg.turnR {b : Nat} {t : TypeId} {cs cs' : Array Value} (h : Pg w W B (R1 ++ (b, t, cs) :: R2) D P V d0 ps VL rs) (hb : w.heap.size ≤ b) (hn : ∀ x ∈ R1 ++ R2, x.1 ≠ b) (i : Nat) (u : Value) (hcs : cs' = cs.setIfInBounds i u) :
    Pg w (W.setCell ⟨b, i, none⟩ u) B (R1 ++ (b, t, cs') :: R2) D P V d0 ps VL rs := by
  subst hcs
  have hB : Blk W b t cs := h.own.2 (b, t, cs) (by simp)
  have lt := h.ltR (b, t, cs) (by simp)
  have hbB : b < B := lt.1
  have ni : 3 ≠ t := lt.2.1
  have nj : 22 ≠ t := lt.2.2
  have hg : W.grownBy (W.setCell ⟨b, i, none⟩ u) (some b) := ⟨rfl, rfl, rfl, by simp [World.setCell], fun k _ hne => Below.heap_setCell W ⟨b, i, none⟩ u k (fun e => hne (by rw [e]))⟩
  have ml : ∀ x ∈ R1 ++ (b, t, cs.setIfInBounds i u) :: R2, x.1 < B ∧ 3 ≠ x.2.1 ∧ 22 ≠ x.2.1 := fun x hx => by
    rcases List.mem_append.1 hx with hx | hx
    · exact h.ltR x (by simp [hx])
    · rcases List.mem_cons.1 hx with rfl | hx
      · exact ⟨hbB, ni, nj⟩
      · exact h.ltR x (by simp [hx])
  refine ⟨⟨below_set h.own.1 hb u, fun x hx => ?_⟩, ⟨Nat.le_trans h.b2.1 hg.size, h.b2.2⟩, ml, h.d.imp id (fun ⟨l, e, hl⟩ => ⟨l, e, hl.map fun g k => k.grown hg (fun cur hg' _ _ e => by injection e with e; omega)⟩), row_set h.p hB ni i u, row_set h.v hB nj i u, h.r.1, fun k hk => (h.r.2 k hk).map fun g k => k.grown hg (fun cur hg' _ _ e => by injection e with e; omega)⟩
  rcases List.mem_append.1 hx with hx | hx
  · exact (h.own.2 x (by simp [hx])).off (hn x (by simp [hx])) u
  · rcases List.mem_cons.1 hx with rfl | hx
    · exact hB.set_ i u
    · exact (h.own.2 x (by simp [hx])).off (hn x (by simp [hx])) u
/-- the first line's numbers -/
theorem Pg.first {D' : Value} {l : List Int} (h : Pg w W B R D P V d0 ps VL rs) (hl : LineAt W B P 0 D' l) : Pg w W B R D' P V (some l) ps VL rs :=
  ⟨h.own, h.b2, h.ltR, .inr ⟨l, rfl, hl⟩, h.p, h.v, h.r⟩
/-- one period more -/
theorem Pg.appP {P' : Value} {n : Int} (h : Pg w W B R D P V d0 ps VL rs) (hown : W'.ownsRow B 3 1 P' (ps.length + 1) (ps.map (Value.int .i64) ++ [.int .i64 n])) (hg : W.grownBy W' P.ownBlock) (ho : P'.ownBlock = P.ownBlock ∨ P'.ownBlock = some W.heap.size) :
    Pg w W' B R D P' V d0 (ps ++ [n]) VL rs := by
  have K : ∀ {off x l}, LineAt W B P off x l → LineAt W' B P' off x l := fun hl => hl.map fun _ k => k.appP hg ho
  refine ⟨⟨h.own.1.grown hg h.own.1.size (fun k hk => Nat.le_trans h.b2.2 (h.p.lt k hk).1), fun x hx => (h.own.2 x hx).grown hg (fun e => own_blk_ne h.p (h.own.2 x hx) (h.ltR x hx).2.1 e.symm)⟩, ⟨Nat.le_trans h.b2.1 hg.size, h.b2.2⟩, h.ltR, h.d.imp id (fun ⟨l, e, hl⟩ => ⟨l, e, K hl⟩), by rw [List.length_append, List.map_append]; exact hown, ?_, h.r.1, fun i hi => K (h.r.2 i hi)⟩
  refine h.v.kept hg ?_
  rcases h.v.2 with ⟨rfl, _⟩ | ⟨g, cap, cur, rfl, _, hh, _⟩
  · exact .inl rfl
  · exact .inr (fun e => own_blk_ne h.p (t := 22) hh (by decide) e.symm)
/-- one row of depths more -/
theorem Pg.appV {V' y : Value} {l : List Int} (h : Pg w W B R D P V d0 ps VL rs) (hy : LineAt W B P 1 y l) (hown : W'.ownsRow B 22 1 V' (VL.length + 1) (VL ++ [y])) (hg : W.grownBy W' V.ownBlock) :
    Pg w W' B R D P V' d0 ps (VL ++ [y]) (rs ++ [l]) := by
  have K : ∀ {off x l}, LineAt W B P off x l → LineAt W' B P off x l := fun hl => hl.map fun _ k => k.appV h.v hg
  refine ⟨⟨h.own.1.grown hg h.own.1.size (fun k hk => Nat.le_trans h.b2.2 (h.v.lt k hk).1), fun x hx => (h.own.2 x hx).grown hg (fun e => own_blk_ne h.v (h.own.2 x hx) (h.ltR x hx).2.2 e.symm)⟩, ⟨Nat.le_trans h.b2.1 hg.size, h.b2.2⟩, h.ltR, h.d.imp id (fun ⟨l, e, hl⟩ => ⟨l, e, K hl⟩), ?_, by rw [List.length_append]; exact hown, by rw [List.length_append, List.length_append, h.r.1]; rfl, fun i hi => ?_⟩
  · refine h.p.kept hg ?_
    rcases h.p.2 with ⟨e, _⟩ | ⟨g, cap, cur, e, _, hh, _⟩
    · rw [e]; exact .inl rfl
    · rw [e]; exact .inr (fun e => own_blk_ne h.v (t := 3) hh (by decide) e.symm)
  · rw [List.length_append, List.length_singleton] at hi
    rcases Nat.lt_or_ge i VL.length with h1 | h1
    · have e2 : (rs ++ [l]).getD i [] = rs.getD i [] := by have := h.r.1; simp [List.getD_eq_getElem?_getD, List.getElem?_append_left (show i < rs.length by omega)]
      rw [List.getElem_append_left h1, e2]
      exact K (h.r.2 i h1)
    · obtain rfl : i = VL.length := by omega
      have e2 : (rs ++ [l]).getD VL.length [] = l := by rw [← h.r.1]; simp [List.getD_eq_getElem?_getD]
      rw [e2]
      simp only [List.getElem_append_right (Nat.le_refl _), Nat.sub_self, List.getElem_cons_zero]
      exact K hy
end
end Go.Proofs.YtnhimgabcljahaaGreatDoor
