/- Parts of one proof, joined: What the program's Parse of a record holds: its boxes and the row of depths in the making; append of a row that may be nil. The program's number of at most 15 digits; nothing that was there is turned. (Printed by gen_gghd.py.). The numbers of a text with a pattern; those of the pattern of an instant; plain facts. Bytes of strings: the rest of a string from a place on. Decimal integers of at most nine digits as the reference reads them; plain facts. (Cut out of XNum by gen_itr.py.). The program's numbers of a text with the pattern of an instant; nothing that was there is turned. (Printed by gen_ckn.py.). The program's reading of an instant; nothing that was there is turned. (Printed by gen_ckp.py.). -/
import Derived.Deep.AppendSrc
import Derived.Test.YtkjndkeboeieoaaGreatDoorPkGaugeBack3
import Derived.Test.YtkjndkeboeieoaaGreatDoorPkGaugeBack4
import Derived.Test.YtkjndkeboeieoaaGreatDoorPkGaugeBack6
import Derived.Test.YtkjndkeboeieoaaGreatDoorPkGaugeBack2
import Derived.Test.YtkjndkeboeieoaaGreatDoorPkGaugeBack1
import Derived.Test.YtkjndkeboeieoaaGreatDoorPkGaugeBack5
namespace Go.Proofs.YtkjndkeboeieoaaGreatDoor
open Go Go.RowKit

/-- append of nothing -/
theorem run_append_none {P : Program} (w : World) (t ty e : TypeId) (i : TypeInfo) (h1 : P.underlying t = some (.slice e)) (h2 : P.info? e = some i) (h3 : i.size = 1) (g : Option Nat) (n c : Nat) (h : n ≤ c) :
    (Builtin.append_ #[t, t] ty #[.slice (g.map fun b => ⟨b, 0, none⟩) n c, .slice none 0 0]).run P w = .ok (.slice (g.map fun b => ⟨b, 0, none⟩) n c) w := by
  cases g with
  | none => simp [Builtin.append_, run_underlying h1, sizeOf, typeInfo, h2, Builtin.lenOf, Builtin.firstCells, h]
  | some b =>
    have := run_append_room_src (P := P) w t t ty e i h1 h2 b 0 n c (.slice none 0 0) 0 [] (by rw [h3]; exact Src.ofNil w h1 0) (by omega) (by simp) (by simp)
    simpa [World.setCells] using this
/-- append of a row of the call's own, which may be nil, in a fence: the new slice written out -/
theorem wpListIn_append_row {F : Fence} {n : Nat} {P : Program} (w : World) {ops : Array Oper} {rest : List Oper} {o : Oper} {a : Act} {Q : Exit → Act → World → Prop}
    (hg : o.guard = none) (s x : Operand) (t : TypeId) (hop : o.op = Op.call { callee := Callee.builtin Builtin.append, args := #[s, x], argTypes := #[t, t] })
    (base base2 : Nat) (e : TypeId) (i : TypeInfo) (z : Value) (bytes : Nat) (h1 : P.underlying t = some (.slice e)) (h2 : P.info? e = some i) (h3 : i.zero = some z) (h4 : i.size = 1) (h5 : i.bytes = bytes) (h6 : z.cells.size = 1)
    (v : Value) (k : Nat) (xs : List Value) (hs : a.eval s = v) (hown : w.ownsRow base e 1 v k xs) (u : Value) (m : Nat) (news : List Value) (hx : a.eval x = u) (hu : w.ownsRow base2 e 1 u m news)
    (h1c : ∀ u ∈ news, u.oneCell' = true) (b1 : k + m ≤ maxLen) (b2 : (k + m) * bytes ≤ 140737488355328) (b3 : base ≤ w.heap.size)
    (hK : ∀ A cap w', w'.ownsRow base e 1 (.slice A (k + m) cap) (k + m) (xs ++ news) → w.grownBy w' v.ownBlock → wpListIn F n P ops Q rest (a.put o.dst (.slice A (k + m) cap)) w') :
    wpListIn F n P ops Q (o :: rest) a w := by
  rcases hu.2 with ⟨rfl, hm⟩ | ⟨g, cap, cur, rfl, _, hh, _, _, _, htk⟩
  · subst hm
    have hn : news = [] := List.eq_nil_of_length_eq_zero (by rw [hu.1])
    subst hn
    have hrow : ∃ g : Option Nat, ∃ c, v = .slice (g.map fun b => ⟨b, 0, none⟩) k c ∧ k ≤ c := by
      rcases hown.2 with ⟨rfl, h0⟩ | ⟨g, cap, _, rfl, _, _, h, _⟩
      · subst h0; exact ⟨none, 0, rfl, Nat.le_refl _⟩
      · exact ⟨some g, cap, rfl, h⟩
    obtain ⟨g, c, rfl, hc⟩ := hrow
    have hrun := run_append_none (P := P) w t o.type e i h1 h2 h4 g k c hc
    refine wpListIn_plain hg fun K hK' => ?_
    unfold Oper.wpIn
    refine ⟨?_, ?_⟩
    · simp [Oper.about, hop, resolve, Target.leads, Sem.run_pure]
    · rw [Oper.semAt_plain F _ _ (by rw [hop]; intro c hc'; cases hc')]
      simp [execOp, hop, resolve, invoke, builtin, hs, hx, hrun, Result.andThen]
      refine hK' _ _ (hK _ _ _ (by rw [List.append_nil]; exact hown) ⟨rfl, rfl, rfl, Nat.le_refl _, fun _ _ _ => rfl⟩)
  · have hnl : news.length = m := by have := hu.1; omega
    refine wpListIn_append_own w hg s x t hop base e i z 1 bytes h1 h2 h3 h4 h5 h6 (by decide) v k xs hs hown ⟨g, 0, none⟩ m cap news hx (by omega) (fun j u hj => ?_) h1c b1 b2 b3 (fun v' w' h hg' _ => ?_)
    · have e' : (⟨g, 0, none⟩ : Addr).add j = ⟨g, j, none⟩ := by unfold Addr.add; split <;> simp_all
      have hB : Blk w g e cur := hh
      rw [e', hB.cell]
      rw [Nat.mul_one] at htk
      rw [← htk] at hj
      have hjm : j < m := by
        rcases Nat.lt_or_ge j m with h | h
        · exact h
        · rw [List.getElem?_eq_none (by simp; omega)] at hj; cases hj
      rw [List.getElem?_take, if_pos hjm] at hj
      simpa using hj
    · obtain ⟨A, c, rfl, _⟩ := row_anyG h
      exact hK A c w' h hg'
theorem lns_ne (s : List UInt8) : ∀ x ∈ lns s, x ≠ [] := by
  have key : ∀ (ps : List (List UInt8)), ∀ x ∈ lnsOf ps, x ≠ [] := by
    intro ps
    induction ps with
    | nil => intro x h; simp [lnsOf] at h
    | cons p r ih =>
      intro x h
      cases r with
      | nil =>
        rw [lnsOf] at h
        split at h
        · simp at h
        · rename_i hp; rw [List.mem_singleton.1 h]; exact hp
      | cons q r =>
        rw [lnsOf] at h
        rcases List.mem_cons.1 h with rfl | h
        · simp
        · exact ih x h
  exact key _
/-- the boxes, and the row of depths beyond them -/
structure Gp (w W : World) (B : Nat) (R : List (Nat × TypeId × Array Value)) (v : Value) (L : List Int) : Prop where
  own : Own w W R
  b2 : B ≤ W.heap.size ∧ w.heap.size ≤ B
  lt : ∀ x ∈ R, x.1 < B
  row : W.ownsRow B 3 1 v L.length (L.map (Value.int .i64))
section
variable {w W W' : World} {B : Nat} {R R1 R2 : List (Nat × TypeId × Array Value)} {v : Value} {L : List Int}
theorem Gp.to (h : Gp w W B R v L) (hb : Below W.heap.size W W') : Gp w W' B R v L := ⟨h.own.to hb, ⟨Nat.le_trans h.b2.1 hb.size, h.b2.2⟩, h.lt, row_below h.row hb⟩
theorem Gp.drew (h : Gp w W B R v L) : Gp w W.drew B R v L := h.to ((Below.refl W.heap.size W).drew)
/-- a block that is none of ours is turned -/
theorem Gp.other {row : Option Nat} (h : Gp w W B R v L) (hg : W.grownBy W' row) (h1 : ∀ k, row = some k → w.heap.size ≤ k) (h2 : ∀ x ∈ R, row ≠ some x.1) (h3 : ∀ g cur, B ≤ g → Blk W g 3 cur → row ≠ some g) : Gp w W' B R v L := by
  refine ⟨⟨h.own.1.grown hg h.own.1.size h1, fun x hx => (h.own.2 x hx).grown hg (fun e => h2 x hx e.symm)⟩, ⟨Nat.le_trans h.b2.1 hg.size, h.b2.2⟩, h.lt, h.row.kept hg ?_⟩
  rcases h.row.2 with ⟨rfl, _⟩ | ⟨g, cap, cur, rfl, hB, hh, _⟩
  · exact .inl rfl
  · exact .inr (fun e => h3 g cur hB hh e.symm)
theorem Gp.turn {row : Option Nat} (h : Gp w W B R v L) (hg : W.grownBy W' row) (hr : ∀ r, row = some r → B ≤ r ∧ ∃ x : Obj, W.heap[r]? = some x ∧ x.isCells = false) : Gp w W' B R v L :=
  h.other hg (fun k hk => Nat.le_trans h.b2.2 (hr k hk).1) (fun x hx e => by have := (hr _ e).1; have := h.lt x hx; omega) (fun g cur _ hh e => by
    obtain ⟨_, x, hx, hc⟩ := hr g e
    unfold Blk at hh
    rw [hh] at hx; cases hx; cases hc)
theorem Gp.box {b : Nat} (h : Gp w W B R v L) (hg : W.grownBy W' (some b)) (hb : w.heap.size ≤ b) (hB : b < B) (hR : ∀ x ∈ R, x.1 ≠ b) : Gp w W' B R v L :=
  h.other hg (fun k hk => by injection hk with hk; omega) (fun x hx e => by injection e with e; exact hR x hx e.symm) (fun g cur hg' _ e => by injection e with e; omega)
theorem Gp.taken {dk : Nat} (h : Gp w W B R v L) (hD : B ≤ dk) (hK : W.heap[dk]? = some (.deferred (some []))) : Gp w (W.putObj dk (.deferred none)) B R v L :=
  h.turn (grownBy_putObj' W dk (.deferred none)) (fun r hr => by cases hr; exact ⟨hD, _, hK, rfl⟩)
/-- one of the boxes is turned -/
theorem Gp.turnR {b : Nat} {t : TypeId} {cs cs' : Array Value} (h : Gp w W B (R1 ++ (b, t, cs) :: R2) v L) (hb : w.heap.size ≤ b) (hn : ∀ x ∈ R1 ++ R2, x.1 ≠ b) (i : Nat) (u : Value) (hcs : cs' = cs.setIfInBounds i u) :
    Gp w (W.setCell ⟨b, i, none⟩ u) B (R1 ++ (b, t, cs') :: R2) v L := by
  subst hcs
  have hbB : b < B := h.lt (b, t, cs) (by simp)
  have hg : W.grownBy (W.setCell ⟨b, i, none⟩ u) (some b) := ⟨rfl, rfl, rfl, by simp [World.setCell], fun k _ hne => Below.heap_setCell W ⟨b, i, none⟩ u k (fun e => hne (by rw [e]))⟩
  refine ⟨⟨below_set h.own.1 hb u, fun x hx => ?_⟩, ⟨Nat.le_trans h.b2.1 hg.size, h.b2.2⟩, fun x hx => ?_, h.row.kept hg ?_⟩
  · rcases List.mem_append.1 hx with hx | hx
    · exact (h.own.2 x (by simp [hx])).off (hn x (by simp [hx])) u
    · rcases List.mem_cons.1 hx with rfl | hx
      · exact (h.own.2 (b, t, cs) (by simp)).set_ i u
      · exact (h.own.2 x (by simp [hx])).off (hn x (by simp [hx])) u
  · rcases List.mem_append.1 hx with hx | hx
    · exact h.lt x (by simp [hx])
    · rcases List.mem_cons.1 hx with rfl | hx
      · exact hbB
      · exact h.lt x (by simp [hx])
  · rcases h.row.2 with ⟨rfl, _⟩ | ⟨g, cap, cur, rfl, hB, _⟩
    · exact .inl rfl
    · exact .inr (fun e => by have e' : (some g : Option Nat) = some b := e; injection e' with e'; omega)
/-- the row grows -/
theorem Gp.app {v' : Value} {L' : List Int} (h : Gp w W B R v L) (hown : W'.ownsRow B 3 1 v' L'.length (L'.map (Value.int .i64))) (hg : W.grownBy W' v.ownBlock) : Gp w W' B R v' L' :=
  ⟨⟨h.own.1.grown hg h.own.1.size (fun k hk => Nat.le_trans h.b2.2 (h.row.lt k hk).1), fun x hx => (h.own.2 x hx).grown hg (fun e => by have := (h.row.lt _ e.symm).1; have := h.lt x hx; omega)⟩, ⟨Nat.le_trans h.b2.1 hg.size, h.b2.2⟩, h.lt, hown⟩
/-- another row, or none -/
theorem Gp.row' {v' : Value} {L' : List Int} (h : Gp w W B R v L) (hown : W.ownsRow B 3 1 v' L'.length (L'.map (Value.int .i64))) : Gp w W B R v' L' := ⟨h.own, h.b2, h.lt, hown⟩
end
/-- the boxes of Parse -/
abbrev RG (b : Nat) (left ln fr st : Int) (v : Value) (r0 p0 : Array Value) (er : Int) : List (Nat × TypeId × Array Value) :=
  [(b + 1 + 1 + 1 + 1 + 1, 3, #[.int .i64 ln]), (b + 1 + 1 + 1 + 1, 3, #[.int .i64 left]), (b + 1 + 1 + 1, 24, #[.int .i64 fr, .int .i64 st, v]), (b + 1 + 1, 27, #[.int .i64 er]), (b + 1, 34, p0), (b, 24, r0)]
abbrev zSer : Array Value := #[.int .i64 0, .int .i64 0, .slice none 0 0]
abbrev zPos : Array Value := #[.int .i64 0, .int .i64 0]
section
variable {w W W' : World} {B b : Nat} {left ln fr st er : Int} {u v : Value} {L : List Int} {r0 p0 : Array Value}
theorem Gp.line (h : Gp w W B (RG b left ln fr st u r0 p0 er) v L) (hb : w.heap.size ≤ b) (n : Int) : Gp w (W.setCell ⟨b + 1 + 1 + 1 + 1 + 1, 0, none⟩ (.int .i64 n)) B (RG b left n fr st u r0 p0 er) v L :=
  Gp.turnR (R1 := []) (R2 := [(b + 1 + 1 + 1 + 1, 3, #[.int .i64 left]), (b + 1 + 1 + 1, 24, #[.int .i64 fr, .int .i64 st, u]), (b + 1 + 1, 27, #[.int .i64 er]), (b + 1, 34, p0), (b, 24, r0)]) h (by omega) (fun x hx => by
    simp only [List.nil_append, List.mem_cons, List.not_mem_nil, or_false] at hx
    rcases hx with rfl | rfl | rfl | rfl | rfl
    all_goals (show (_ : Nat) ≠ _; omega)) 0 _ rfl
theorem Gp.rest (h : Gp w W B (RG b left ln fr st u r0 p0 er) v L) (hb : w.heap.size ≤ b) (n : Int) : Gp w (W.setCell ⟨b + 1 + 1 + 1 + 1, 0, none⟩ (.int .i64 n)) B (RG b n ln fr st u r0 p0 er) v L :=
  Gp.turnR (R1 := [(b + 1 + 1 + 1 + 1 + 1, 3, #[.int .i64 ln])]) (R2 := [(b + 1 + 1 + 1, 24, #[.int .i64 fr, .int .i64 st, u]), (b + 1 + 1, 27, #[.int .i64 er]), (b + 1, 34, p0), (b, 24, r0)]) h (by omega) (fun x hx => by
    simp only [List.cons_append, List.nil_append, List.mem_cons, List.not_mem_nil, or_false] at hx
    rcases hx with rfl | rfl | rfl | rfl | rfl
    all_goals (show (_ : Nat) ≠ _; omega)) 0 _ rfl
theorem Gp.field (h : Gp w W B (RG b left ln fr st u r0 p0 er) v L) (hb : w.heap.size ≤ b) (i : Nat) (x : Value) (fr' st' : Int) (u' : Value) (e : (#[.int .i64 fr', .int .i64 st', u'] : Array Value) = (#[.int .i64 fr, .int .i64 st, u] : Array Value).setIfInBounds i x) : Gp w (W.setCell ⟨b + 1 + 1 + 1, i, none⟩ x) B (RG b left ln fr' st' u' r0 p0 er) v L :=
  Gp.turnR (R1 := [(b + 1 + 1 + 1 + 1 + 1, 3, #[.int .i64 ln]), (b + 1 + 1 + 1 + 1, 3, #[.int .i64 left])]) (R2 := [(b + 1 + 1, 27, #[.int .i64 er]), (b + 1, 34, p0), (b, 24, r0)]) h (by omega) (fun x hx => by
    simp only [List.cons_append, List.nil_append, List.mem_cons, List.not_mem_nil, or_false] at hx
    rcases hx with rfl | rfl | rfl | rfl | rfl
    all_goals (show (_ : Nat) ≠ _; omega)) i x e
/-- the results are stored -/
theorem Gp.six {a0 a1 a2 c0 c1 : Value} (h : Gp w W B (RG b left ln fr st u #[a0, a1, a2] #[c0, c1] er) v L) (hb : w.heap.size ≤ b) (x0 x1 x2 y0 y1 : Value) (z : Int) :
    Gp w ((((((W.setCell ⟨b, 0, none⟩ x0).setCell ⟨b, 1, none⟩ x1).setCell ⟨b, 2, none⟩ x2).setCell ⟨b + 1, 0, none⟩ y0).setCell ⟨b + 1, 1, none⟩ y1).setCell ⟨b + 1 + 1, 0, none⟩ (.int .i64 z)) B (RG b left ln fr st u #[x0, x1, x2] #[y0, y1] z) v L := by
  have n1 : ∀ x ∈ [(b + 1 + 1 + 1 + 1 + 1, 3, #[Value.int .i64 ln]), (b + 1 + 1 + 1 + 1, 3, #[.int .i64 left]), (b + 1 + 1 + 1, 24, #[.int .i64 fr, .int .i64 st, u]), (b + 1 + 1, 27, #[.int .i64 er]), (b + 1, 34, #[c0, c1])] ++ [], x.1 ≠ b := fun x hx => by
    simp only [List.append_nil, List.mem_cons, List.not_mem_nil, or_false] at hx
    rcases hx with rfl | rfl | rfl | rfl | rfl
    all_goals (show (_ : Nat) ≠ _; omega)
  have n2 : ∀ x ∈ [(b + 1 + 1 + 1 + 1 + 1, 3, #[Value.int .i64 ln]), (b + 1 + 1 + 1 + 1, 3, #[.int .i64 left]), (b + 1 + 1 + 1, 24, #[.int .i64 fr, .int .i64 st, u]), (b + 1 + 1, 27, #[.int .i64 er])] ++ [(b, 24, #[x0, x1, x2])], x.1 ≠ b + 1 := fun x hx => by
    simp only [List.cons_append, List.nil_append, List.mem_cons, List.not_mem_nil, or_false] at hx
    rcases hx with rfl | rfl | rfl | rfl | rfl
    all_goals (show (_ : Nat) ≠ _; omega)
  have n3 : ∀ x ∈ [(b + 1 + 1 + 1 + 1 + 1, 3, #[Value.int .i64 ln]), (b + 1 + 1 + 1 + 1, 3, #[.int .i64 left]), (b + 1 + 1 + 1, 24, #[.int .i64 fr, .int .i64 st, u])] ++ [(b + 1, 34, #[y0, y1]), (b, 24, #[x0, x1, x2])], x.1 ≠ b + 1 + 1 := fun x hx => by
    simp only [List.cons_append, List.nil_append, List.mem_cons, List.not_mem_nil, or_false] at hx
    rcases hx with rfl | rfl | rfl | rfl | rfl
    all_goals (show (_ : Nat) ≠ _; omega)
  have k1 := Gp.turnR (R1 := [(b + 1 + 1 + 1 + 1 + 1, 3, #[.int .i64 ln]), (b + 1 + 1 + 1 + 1, 3, #[.int .i64 left]), (b + 1 + 1 + 1, 24, #[.int .i64 fr, .int .i64 st, u]), (b + 1 + 1, 27, #[.int .i64 er]), (b + 1, 34, #[c0, c1])]) (R2 := []) h hb n1 0 x0 (cs' := #[x0, a1, a2]) rfl
  have k2 := Gp.turnR (R1 := [(b + 1 + 1 + 1 + 1 + 1, 3, #[.int .i64 ln]), (b + 1 + 1 + 1 + 1, 3, #[.int .i64 left]), (b + 1 + 1 + 1, 24, #[.int .i64 fr, .int .i64 st, u]), (b + 1 + 1, 27, #[.int .i64 er]), (b + 1, 34, #[c0, c1])]) (R2 := []) k1 hb n1 1 x1 (cs' := #[x0, x1, a2]) rfl
  have k3 := Gp.turnR (R1 := [(b + 1 + 1 + 1 + 1 + 1, 3, #[.int .i64 ln]), (b + 1 + 1 + 1 + 1, 3, #[.int .i64 left]), (b + 1 + 1 + 1, 24, #[.int .i64 fr, .int .i64 st, u]), (b + 1 + 1, 27, #[.int .i64 er]), (b + 1, 34, #[c0, c1])]) (R2 := []) k2 hb n1 2 x2 (cs' := #[x0, x1, x2]) rfl
  have k4 := Gp.turnR (R1 := [(b + 1 + 1 + 1 + 1 + 1, 3, #[.int .i64 ln]), (b + 1 + 1 + 1 + 1, 3, #[.int .i64 left]), (b + 1 + 1 + 1, 24, #[.int .i64 fr, .int .i64 st, u]), (b + 1 + 1, 27, #[.int .i64 er])]) (R2 := [(b, 24, #[x0, x1, x2])]) k3 (by omega) n2 0 y0 (cs' := #[y0, c1]) rfl
  have k5 := Gp.turnR (R1 := [(b + 1 + 1 + 1 + 1 + 1, 3, #[.int .i64 ln]), (b + 1 + 1 + 1 + 1, 3, #[.int .i64 left]), (b + 1 + 1 + 1, 24, #[.int .i64 fr, .int .i64 st, u]), (b + 1 + 1, 27, #[.int .i64 er])]) (R2 := [(b, 24, #[x0, x1, x2])]) k4 (by omega) n2 1 y1 (cs' := #[y0, y1]) rfl
  exact Gp.turnR (R1 := [(b + 1 + 1 + 1 + 1 + 1, 3, #[.int .i64 ln]), (b + 1 + 1 + 1 + 1, 3, #[.int .i64 left]), (b + 1 + 1 + 1, 24, #[.int .i64 fr, .int .i64 st, u])]) (R2 := [(b + 1, 34, #[y0, y1]), (b, 24, #[x0, x1, x2])]) k5 (by omega) n3 0 (.int .i64 z) (cs' := #[.int .i64 z]) rfl
end
/-- what is no cells, and the block b, lie as they lay -/
structure Kq (b : Nat) (W W' : World) : Prop where
  o : KeepsOthers W W'
  k : W'.heap[b]? = W.heap[b]?
theorem Kq.refl (b : Nat) (W : World) : Kq b W W := ⟨KeepsOthers.refl _, rfl⟩
theorem Kq.trans {b : Nat} {A B C : World} (h : Kq b A B) (k : Kq b B C) : Kq b A C := ⟨h.o.trans k.o, k.k.trans h.k⟩
theorem Kq.below {b : Nat} {W W' : World} (hb : Below W.heap.size W W') (h : b < W.heap.size) : Kq b W W' := ⟨⟨hb.size, fun k _ hk _ => (hb.block k (Array.getElem?_eq_some_iff.1 hk).1).trans hk⟩, hb.block b h⟩
theorem Kq.row {b B : Nat} {W W' : World} {e : TypeId} {sz n : Nat} {v : Value} {xs : List Value} (hr : W.ownsRow B e sz v n xs) (hg : W.grownBy W' v.ownBlock) (h : b < B) (hl : b < W.heap.size) : Kq b W W' := by
  refine ⟨KeepsOthers.of_grownBy hg fun j x ej hj => ?_, hg.block b hl (fun e => by have := (hr.lt b e.symm).1; omega)⟩
  rcases hr.2 with ⟨rfl, _⟩ | ⟨g, cap, cur, rfl, _, hgb, _⟩
  · simp [Value.ownBlock] at ej
  · obtain rfl : g = j := by simpa [Value.ownBlock] using ej
    rw [hgb] at hj; cases hj; rfl
theorem Kq.set {b : Nat} (W : World) (p : Nat) (i : Nat) (u : Value) (h : b ≠ p) : Kq b W (W.setCell ⟨p, i, none⟩ u) := ⟨KeepsOthers.setCell _ _ _, Below.heap_setCell W ⟨p, i, none⟩ u b h⟩
theorem kq_six (W : World) {k b : Nat} (h0 : k ≠ b) (h1 : k ≠ b + 1) (h2 : k ≠ b + 1 + 1) (x0 x1 x2 y0 y1 z : Value) :
    Kq k W ((((((W.setCell ⟨b, 0, none⟩ x0).setCell ⟨b, 1, none⟩ x1).setCell ⟨b, 2, none⟩ x2).setCell ⟨b + 1, 0, none⟩ y0).setCell ⟨b + 1, 1, none⟩ y1).setCell ⟨b + 1 + 1, 0, none⟩ z) :=
  (((((Kq.set _ _ _ _ h0).trans (Kq.set _ _ _ _ h0)).trans (Kq.set _ _ _ _ h0)).trans (Kq.set _ _ _ _ h1)).trans (Kq.set _ _ _ _ h1)).trans (Kq.set _ _ _ _ h2)
end Go.Proofs.YtkjndkeboeieoaaGreatDoor

namespace Go.Proofs.YtkjndkeboeieoaaGreatDoor
open Go Go.RowKit

theorem nv_cases (u : List UInt8) : (nvB u = true ∧ atB u = true ∧ u.length ≤ 15 ∧ 0 ≤ atV u ∧ Lib.itoa (atV u) = u) ∨ (nvB u = false ∧ atB u = false) ∨ (nvB u = false ∧ atB u = true ∧ 15 < u.length) ∨ (nvB u = false ∧ atB u = true ∧ u.length ≤ 15 ∧ atV u < 0) ∨
    (nvB u = false ∧ atB u = true ∧ u.length ≤ 15 ∧ 0 ≤ atV u ∧ Lib.itoa (atV u) ≠ u) := by
  have e : nvB u = (atB u && decide (u.length ≤ 15) && decide (0 ≤ atV u) && decide (Lib.itoa (atV u) = u)) := rfl
  rw [e]
  cases atB u
  · simp
  · by_cases h1 : u.length ≤ 15 <;> by_cases h2 : Lib.itoa (atV u) = u <;> by_cases h3 : 0 ≤ atV u <;> simp [h1, h2, h3] <;> omega
set_option maxRecDepth 100000 in
set_option maxHeartbeats 2000000 in
theorem gnumber_any (u : List UInt8) (w : World) (hu : u.length ≤ 1000000) (ht : TxtW w) : Calls Tryz.prog 63 #[strV u] w (RetV (.tuple #[.int .i64 (atV u), .bool (nvB u)]) w) := by
  have HT := hide ht
  have A1 := hide (fun W h => atoiL u W (by omega) h)
  have bv := atV_bd u
  have I1 := hide (fun W h => itoaL (atV u) W bv.1 bv.2 h)
  have NC := nv_cases u
  clear ht
  generalize nvB u = nb at *
  rcases NC with ⟨rfl, n2, n3, n4, n5⟩ | ⟨rfl, n2⟩ | ⟨rfl, n2, n3⟩ | ⟨rfl, n2, n3, n4⟩ | ⟨rfl, n2, n3, n4, n5⟩
  · rw [n2] at A1
    rw [n5] at I1
    have q1 : (u == u) = true := by simp
    have q2 : decide (0 ≤ atV u) = true := decide_eq_true n4
    have q3 : decide ((u.length : Int) ≤ 15) = true := decide_eq_true (by omega)
    clear n2 n5 n3 n4
    generalize atV u = v at *
    go_enter Tryz.func63, Tryz.ntmps63
    go_wp2_with fail
    refine (A1.out _ HT.out).mono ?_
    rintro e w3 ⟨⟨ev1, rfl, h1, h2⟩, hb⟩
    obtain rfl := h1 rfl
    have HB := hide hb
    clear h1 h2 hb
    go_wp2_with fail
    refine (I1.out _ (HT.out.below HB.out)).mono ?_
    rintro e w4 ⟨rfl, hb⟩
    have HB2 := hide (below_via HB.out HB.out.size hb)
    clear hb
    go_wp2
    go_ret2
    exact ⟨rfl, HB2.out⟩
  · rw [n2] at A1
    clear n2
    generalize atV u = v at *
    go_enter Tryz.func63, Tryz.ntmps63
    go_wp2_with fail
    refine (A1.out _ HT.out).mono ?_
    rintro e w3 ⟨⟨ev1, rfl, h1, h2⟩, hb⟩
    obtain ⟨te, pe1, rfl⟩ := h2 rfl
    have HB := hide hb
    clear h1 h2 hb
    go_wp2
    go_ret2
    exact ⟨rfl, HB.out⟩
  · rw [n2] at A1
    have q3 : decide ((u.length : Int) ≤ 15) = false := decide_eq_false (by omega)
    clear n2 n3
    generalize atV u = v at *
    go_enter Tryz.func63, Tryz.ntmps63
    go_wp2_with fail
    refine (A1.out _ HT.out).mono ?_
    rintro e w3 ⟨⟨ev1, rfl, h1, h2⟩, hb⟩
    obtain rfl := h1 rfl
    have HB := hide hb
    clear h1 h2 hb
    go_wp2
    go_ret2
    exact ⟨rfl, HB.out⟩
  · rw [n2] at A1
    have q2 : decide (0 ≤ atV u) = false := decide_eq_false (by omega)
    have q3 : decide ((u.length : Int) ≤ 15) = true := decide_eq_true (by omega)
    clear n2 n3 n4
    generalize atV u = v at *
    go_enter Tryz.func63, Tryz.ntmps63
    go_wp2_with fail
    refine (A1.out _ HT.out).mono ?_
    rintro e w3 ⟨⟨ev1, rfl, h1, h2⟩, hb⟩
    obtain rfl := h1 rfl
    have HB := hide hb
    clear h1 h2 hb
    go_wp2
    go_ret2
    exact ⟨rfl, HB.out⟩
  · rw [n2] at A1
    have q1 : (Lib.itoa (atV u) == u) = false := by simpa using n5
    have q2 : decide (0 ≤ atV u) = true := decide_eq_true n4
    have q3 : decide ((u.length : Int) ≤ 15) = true := decide_eq_true (by omega)
    clear n2 n5 n3 n4
    generalize Lib.itoa (atV u) = it at *
    generalize atV u = v at *
    go_enter Tryz.func63, Tryz.ntmps63
    go_wp2_with fail
    refine (A1.out _ HT.out).mono ?_
    rintro e w3 ⟨⟨ev1, rfl, h1, h2⟩, hb⟩
    obtain rfl := h1 rfl
    have HB := hide hb
    clear h1 h2 hb
    go_wp2_with fail
    refine (I1.out _ (HT.out.below HB.out)).mono ?_
    rintro e w4 ⟨rfl, hb⟩
    have HB2 := hide (below_via HB.out HB.out.size hb)
    clear hb
    go_wp2
    go_ret2
    exact ⟨rfl, HB2.out⟩
end Go.Proofs.YtkjndkeboeieoaaGreatDoor

namespace Go.Proofs.YtkjndkeboeieoaaGreatDoor
open Go.Lib

/-- the rest of the text, of the pattern, the numbers so far, the number that is read, and whether there is one -/
def nmF : List UInt8 → List UInt8 → List Int → Nat → Bool → Option (List Int)
  | c :: s, q :: p, L, n, o => if q ≠ 48 then (if c ≠ q then none else nmF s p (if o = true then L ++ [(n : Int)] else L) 0 false) else if ¬ isDg c then none else nmF s p L (10 * n + (c.toNat - 48)) true
  | _, _, L, n, _ => some (L ++ [(n : Int)])
def nmR (s p : List UInt8) : Option (List Int) := if s.length = p.length then nmF s p [] 0 false else none
/-- the pattern of an instant -/
def ptC : List UInt8 := [48, 48, 48, 48, 45, 48, 48, 45, 48, 48, 32, 48, 48, 58, 48, 48, 58, 48, 48]
theorem ptC_len : ptC.length = 19 := rfl
/-- how many digits are open -/
def rnC : List Nat := [0, 1, 2, 3, 4, 0, 1, 2, 0, 1, 2, 0, 1, 2, 0, 1, 2, 0, 1, 2]
theorem rnC_step (k : Nat) (h : k < 19) : (ptC.getD k 0 = 48 → rnC.getD (k + 1) 0 = rnC.getD k 0 + 1 ∧ rnC.getD k 0 ≤ 3) ∧ rnC.getD k 0 ≤ 4 := by
  have key : ∀ k : Fin 19, (ptC.getD k.val 0 = 48 → rnC.getD (k.val + 1) 0 = rnC.getD k.val 0 + 1 ∧ rnC.getD k.val 0 ≤ 3) ∧ rnC.getD k.val 0 ≤ 4 := by decide
  exact key ⟨k, h⟩
theorem nmF_dg {c : UInt8} {s p : List UInt8} {L : List Int} {n : Nat} {o : Bool} (h : isDg c) : nmF (c :: s) (48 :: p) L n o = nmF s p L (10 * n + (c.toNat - 48)) true := by
  rw [nmF, if_neg (by simp), if_neg (by simpa using h)]
theorem nmF_sp {q : UInt8} {s p : List UInt8} {L : List Int} {n : Nat} {o : Bool} (h : q ≠ 48) : nmF (q :: s) (q :: p) L n o = nmF s p (if o = true then L ++ [(n : Int)] else L) 0 false := by
  rw [nmF, if_pos h, if_neg (by simp)]
theorem nmF_dg_inv {c : UInt8} {s p : List UInt8} {L l : List Int} {n : Nat} {o : Bool} (h : nmF (c :: s) (48 :: p) L n o = some l) : isDg c ∧ nmF s p L (10 * n + (c.toNat - 48)) true = some l := by
  rw [nmF, if_neg (by simp)] at h
  by_cases hd : isDg c
  · rw [if_neg (by simpa using hd)] at h; exact ⟨hd, h⟩
  · rw [if_pos hd] at h; cases h
theorem nmF_sp_inv {c q : UInt8} {s p : List UInt8} {L l : List Int} {n : Nat} {o : Bool} (hq : q ≠ 48) (h : nmF (c :: s) (q :: p) L n o = some l) : c = q ∧ nmF s p (if o = true then L ++ [(n : Int)] else L) 0 false = some l := by
  rw [nmF, if_pos hq] at h
  by_cases hd : c = q
  · rw [if_neg (by simpa using hd)] at h; exact ⟨hd, h⟩
  · rw [if_pos hd] at h; cases h
theorem list19 {l : List UInt8} (h : l.length = 19) : ∃ a0 a1 a2 a3 p b0 b1 q c0 c1 r h0 h1 u i0 i1 v x0 x1, l = [a0, a1, a2, a3, p, b0, b1, q, c0, c1, r, h0, h1, u, i0, i1, v, x0, x1] := by
  match l, h with
  | [a0, a1, a2, a3, p, b0, b1, q, c0, c1, r, h0, h1, u, i0, i1, v, x0, x1], _ => exact ⟨a0, a1, a2, a3, p, b0, b1, q, c0, c1, r, h0, h1, u, i0, i1, v, x0, x1, rfl⟩
theorem ck_len {l : List UInt8} {c : Ck} (h : ckF l = some c) : l.length = 19 := by
  unfold ckF at h
  split at h
  · rfl
  · cases h
theorem nm_yes {l : List UInt8} {c : Ck} (h : ckF l = some c) : nmR l ptC = some [(c.y : Int), (c.m : Int), (c.d : Int), (c.h : Int), (c.i : Int), (c.x : Int)] := by
  unfold nmR
  rw [if_pos (by rw [ck_len h]; rfl)]
  unfold ckF at h
  split at h
  · rename_i a0 a1 a2 a3 p b0 b1 q c0 c1 r h0 h1 u i0 i1 v x0 x1
    split at h
    · rename_i hc
      obtain ⟨rfl, rfl, rfl, rfl, rfl, hz⟩ := hc
      injection h with h
      subst h
      simp only [List.mem_cons, List.not_mem_nil, or_false, forall_eq_or_imp, forall_eq] at hz
      obtain ⟨z0, z1, z2, z3, z4, z5, z6, z7, z8, z9, z10, z11, z12, z13⟩ := hz
      unfold ptC
      rw [nmF_dg z0, nmF_dg z1, nmF_dg z2, nmF_dg z3, nmF_sp (by decide), nmF_dg z4, nmF_dg z5, nmF_sp (by decide), nmF_dg z6, nmF_dg z7, nmF_sp (by decide), nmF_dg z8, nmF_dg z9, nmF_sp (by decide), nmF_dg z10, nmF_dg z11, nmF_sp (by decide), nmF_dg z12, nmF_dg z13]
      simp only [nmF, if_true, List.nil_append, List.cons_append, valL, List.foldl_cons, List.foldl_nil]
      simp only [Nat.mul_comm 10, Nat.zero_mul, Nat.zero_add]
    · cases h
  · cases h
theorem nm_no {l : List UInt8} (h : ckF l = none) : nmR l ptC = none := by
  unfold nmR
  split
  · rename_i hl
    obtain ⟨a0, a1, a2, a3, p, b0, b1, q, c0, c1, r, h0, h1, u, i0, i1, v, x0, x1, rfl⟩ := list19 hl
    cases hn : nmF [a0, a1, a2, a3, p, b0, b1, q, c0, c1, r, h0, h1, u, i0, i1, v, x0, x1] ptC [] 0 false with
    | none => rfl
    | some L =>
      exfalso
      unfold ptC at hn
      obtain ⟨z0, hn⟩ := nmF_dg_inv hn
      obtain ⟨z1, hn⟩ := nmF_dg_inv hn
      obtain ⟨z2, hn⟩ := nmF_dg_inv hn
      obtain ⟨z3, hn⟩ := nmF_dg_inv hn
      obtain ⟨k1, hn⟩ := nmF_sp_inv (by decide) hn
      obtain ⟨z4, hn⟩ := nmF_dg_inv hn
      obtain ⟨z5, hn⟩ := nmF_dg_inv hn
      obtain ⟨k2, hn⟩ := nmF_sp_inv (by decide) hn
      obtain ⟨z6, hn⟩ := nmF_dg_inv hn
      obtain ⟨z7, hn⟩ := nmF_dg_inv hn
      obtain ⟨k3, hn⟩ := nmF_sp_inv (by decide) hn
      obtain ⟨z8, hn⟩ := nmF_dg_inv hn
      obtain ⟨z9, hn⟩ := nmF_dg_inv hn
      obtain ⟨k4, hn⟩ := nmF_sp_inv (by decide) hn
      obtain ⟨z10, hn⟩ := nmF_dg_inv hn
      obtain ⟨z11, hn⟩ := nmF_dg_inv hn
      obtain ⟨k5, hn⟩ := nmF_sp_inv (by decide) hn
      obtain ⟨z12, hn⟩ := nmF_dg_inv hn
      obtain ⟨z13, hn⟩ := nmF_dg_inv hn
      unfold ckF at h
      dsimp only at h
      rw [if_pos ⟨k1, k2, k3, k4, k5, fun z hz => by
        simp only [List.mem_cons, List.not_mem_nil, or_false] at hz
        rcases hz with rfl | rfl | rfl | rfl | rfl | rfl | rfl | rfl | rfl | rfl | rfl | rfl | rfl | rfl <;> assumption⟩] at h
      cases h
  · rfl
/-- the parts that are read are small -/
theorem ck_bd {l : List UInt8} {c : Ck} (h : ckF l = some c) : c.y < 10000 ∧ c.m < 100 ∧ c.d < 100 ∧ c.h < 100 ∧ c.i < 100 ∧ c.x < 100 := by
  unfold ckF at h
  split at h
  · rename_i a0 a1 a2 a3 p b0 b1 q c0 c1 r h0 h1 u i0 i1 v x0 x1
    split at h
    · rename_i hc
      obtain ⟨rfl, rfl, rfl, rfl, rfl, hz⟩ := hc
      injection h with h
      subst h
      simp only [List.mem_cons, List.not_mem_nil, or_false, forall_eq_or_imp, forall_eq] at hz
      obtain ⟨z0, z1, z2, z3, z4, z5, z6, z7, z8, z9, z10, z11, z12, z13⟩ := hz
      have e := valL_lt [a0, a1, a2, a3] (fun c hc => by simp only [List.mem_cons, List.not_mem_nil, or_false] at hc; rcases hc with rfl | rfl | rfl | rfl <;> assumption) 0
      exact ⟨by simpa using e, val_lt2 z4 z5, val_lt2 z6 z7, val_lt2 z8 z9, val_lt2 z10 z11, val_lt2 z12 z13⟩
    · cases h
  · cases h
end Go.Proofs.YtkjndkeboeieoaaGreatDoor

namespace Go.Proofs.YtkjndkeboeieoaaGreatDoor
open Go Go.RowKit

theorem drop_byteD (s : ByteArray) (k : Nat) (h : k < s.size) : s.data.toList.drop k = s[k] :: s.data.toList.drop (k + 1) := by
  rw [List.drop_eq_getElem_cons (by simpa using h)]; rfl
theorem byteD (b : UInt8) : (0 : Int) ≤ (b.toNat : Int) ∧ (b.toNat : Int) < 256 := ⟨by omega, by have := b.toNat_lt; omega⟩
theorem head_byte (s : ByteArray) (h : 0 < s.size) : s.data.toList.head? = some s[0] := by
  have := drop_byteD s 0 h
  rw [List.drop_zero] at this
  rw [this]; rfl
theorem enc_digit (d : Nat) (h : d < 10) : Utf8.encode (48 + (d : Int)) = ⟨#[UInt8.ofNat (48 + d)]⟩ := by
  have key : ∀ d : Fin 10, Utf8.encode (48 + (d.val : Int)) = ⟨#[UInt8.ofNat (48 + d.val)]⟩ := by decide +kernel
  exact key ⟨d, h⟩
/-- the numeral by its last digit -/
theorem itoa_last {n : Int} {q : Int} {d : Nat} (h : 10 ≤ n.natAbs) (hq : n.tdiv 10 = q) (hd : (n.tmod 10).natAbs = d) : Lib.itoa n = Lib.itoa q ++ [UInt8.ofNat (48 + d)] := by
  have e1 : q.natAbs = n.natAbs / 10 := by rw [← hq, Int.natAbs_tdiv]; rfl
  have e2 : d = n.natAbs % 10 := by rw [← hd, Int.natAbs_tmod]; rfl
  by_cases hn : n < 0
  · have rb : d < 10 := by rw [e2]; exact Nat.mod_lt _ (by decide)
    have rq := Int.tmod_add_mul_tdiv n 10
    rw [hq] at rq
    have qn : q < 0 := by omega
    rw [itoa_neg hn, itoa_neg qn, dec_big (by omega), e1, e2]; rfl
  · have qn : ¬ q < 0 := by
      have : 0 ≤ n.tdiv 10 := Int.tdiv_nonneg (by omega) (by omega)
      omega
    rw [itoa_pos (by omega), itoa_pos (by omega), dec_big (by omega), show n.toNat = n.natAbs by omega, show q.toNat = q.natAbs by omega, e1, e2]
theorem itoa_first {n : Int} {d : Nat} (h : n.natAbs = d) (hd : d < 10) : Lib.itoa n = (if n < 0 then [45] else []) ++ [UInt8.ofNat (48 + d)] := by
  by_cases hn : n < 0
  · rw [itoa_neg hn, if_pos hn, h, dec_small hd]; rfl
  · rw [itoa_pos (by omega), if_neg hn, show n.toNat = d by omega, dec_small hd]; rfl
end Go.Proofs.YtkjndkeboeieoaaGreatDoor

namespace Go.Proofs.YtkjndkeboeieoaaGreatDoor
open Go Go.RowKit

/-- what the reference's Number returns -/
def rnV (l : List UInt8) : Int := if rnB l then (valL 0 l : Nat) else 0
theorem rn_len {l : List UInt8} (h : ¬ (1 ≤ l.length ∧ l.length ≤ 9)) : rnB l = false ∧ rnV l = 0 := by
  have : rnB l = false := by
    rcases Bool.eq_false_or_eq_true (rnB l) with h1 | h1
    · have := rn_facts h1
      have h2 := List.length_pos_iff.2 this.2.1
      omega
    · exact h1
  exact ⟨this, by unfold rnV; rw [if_neg (by rw [this]; simp)]⟩
theorem rn_zero {l : List UInt8} (h : 1 < l.length) (h0 : l.head? = some 48) : rnB l = false ∧ rnV l = 0 := by
  have : rnB l = false := by
    rcases Bool.eq_false_or_eq_true (rnB l) with h1 | h1
    · exact absurd (by rw [h0]; rfl) ((rn_facts h1).2.2.2 h)
    · exact h1
  exact ⟨this, by unfold rnV; rw [if_neg (by rw [this]; simp)]⟩
theorem rn_bad {l : List UInt8} {c : UInt8} (h : c ∈ l) (h0 : ¬ isDg c) : rnB l = false ∧ rnV l = 0 := by
  have : rnB l = false := by
    rcases Bool.eq_false_or_eq_true (rnB l) with h1 | h1
    · exact absurd ((rn_facts h1).1 c h) h0
    · exact h1
  exact ⟨this, by unfold rnV; rw [if_neg (by rw [this]; simp)]⟩
theorem rn_good {l : List UInt8} (h1 : 1 ≤ l.length) (h9 : l.length ≤ 9) (hz : 1 < l.length → l.head? ≠ some 48) (hd : ∀ c ∈ l, isDg c) : rnB l = true ∧ rnV l = (valL 0 l : Nat) := by
  have : rnB l = true := by
    unfold rnB
    simp only [Bool.and_eq_true, decide_eq_true_eq, Bool.not_eq_true', Bool.and_eq_false_iff, decide_eq_false_iff_not]
    refine ⟨⟨⟨h1, h9⟩, ?_⟩, all_dg.2 hd⟩
    by_cases h : 1 < l.length
    · exact .inr (hz h)
    · exact .inl h
  exact ⟨this, by unfold rnV; rw [if_pos this]⟩
theorem u8_digit {d : Nat} (h1 : 48 ≤ d) (h2 : d ≤ 57) : IntKind.u8.wrap ((d : Int) - 48) = ((d - 48 : Nat) : Int) ∧ IntKind.i64.wrap (((d - 48 : Nat) : Int)) = ((d - 48 : Nat) : Int) := by
  constructor
  · simp [IntKind.wrap, IntKind.signed, IntKind.bits]; omega
  · exact IntWalk.i64_in _ (by omega)
theorem val_take {l : List UInt8} {k : Nat} (h : k < l.length) : valL 0 (l.take (k + 1)) = valL 0 (l.take k) * 10 + (l[k].toNat - 48) := by
  rw [List.take_succ_eq_append_getElem h, valL_append]
  rfl
end Go.Proofs.YtkjndkeboeieoaaGreatDoor

namespace Go.Proofs.YtkjndkeboeieoaaGreatDoor
open Go Go.RowKit

def NmPost (o : Option (List Int)) (w : World) (e : Ending) (w' : World) : Prop := Below w.heap.size w w' ∧
  ((o = none ∧ e = .returned (.tuple #[.slice none 0 0, .bool false])) ∨ ∃ (l : List Int) (v : Value), o = some l ∧ e = .returned (.tuple #[v, .bool true]) ∧ w'.ownsRow w.heap.size 3 1 v l.length (l.map (Value.int .i64)))
theorem NmPost.no {o : Option (List Int)} {w w' : World} (hb : Below w.heap.size w w') (h : o = none) : NmPost o w (.returned (.tuple #[.slice none 0 0, .bool false])) w' := ⟨hb, .inl ⟨h, rfl⟩⟩
set_option maxRecDepth 100000 in
set_option maxHeartbeats 4000000 in
theorem cnumbers_any (s p : ByteArray) (w : World) (hp : p.data.toList = ptC) (hs : s.size ≤ maxLen) : Calls Tryz.prog 84 #[.string s, .string p] w (NmPost (nmR s.data.toList ptC) w) := by
  unfold maxLen at hs
  have hsl : s.data.toList.length = s.size := by simp
  have hpl : p.data.toList.length = p.size := by simp
  have hp19 : p.size = 19 := by rw [← hpl, hp]; rfl
  by_cases hl : s.size = p.size
  case neg =>
    have E := hide (show nmR s.data.toList ptC = none by unfold nmR; rw [if_neg (by rw [hsl, ptC_len, ← hp19]; exact hl)])
    have q1 : ((s.size : Int) == (p.size : Int)) = false := beq_eq_false_iff_ne.2 (by omega)
    have q2 : ((s.size : Int) != (p.size : Int)) = true := by simp; omega
    clear hl hp19 hsl hpl hp
    go_enter Tryz.func84, Tryz.ntmps84
    go_wp2
    exact bodyPost_ret (v := .tuple #[.slice none 0 0, .bool false]) (by simp [results, Tryz.results84, go_sem]) rfl (NmPost.no (Below.refl _ _) E.out)
  have p1 : p.size ≤ 19 := by omega
  have p2 : 19 ≤ p.size := by omega
  have z1 : s.size ≤ 19 := by omega
  have z2 : 19 ≤ s.size := by omega
  have q1 : ((s.size : Int) == (p.size : Int)) = true := beq_iff_eq.2 (by omega)
  have q2 : ((s.size : Int) != (p.size : Int)) = false := by simp; omega
  have ST : Hid (nmR s.data.toList ptC = nmF (s.data.toList.drop 0) (ptC.drop 0) [] 0 false) := hide (by unfold nmR; rw [if_pos (by rw [hsl, ptC_len]; omega), List.drop_zero, List.drop_zero])
  have DS := hide (fun k (h : k < s.size) => drop_byteD s k h)
  have DP : Hid (∀ k (h : k < p.size), ptC.drop k = p[k] :: ptC.drop (k + 1) ∧ ptC.getD k 0 = p[k]) := hide (fun k h => by
    have e := drop_byteD p k h
    rw [hp] at e
    refine ⟨e, ?_⟩
    have := congrArg List.head? e
    rw [List.head?_drop] at this
    simp only [List.head?_cons] at this
    rw [List.getD_eq_getElem?_getD, this]; rfl)
  have END : Hid (∀ (L : List Int) (n : Nat) (o : Bool), nmF (s.data.toList.drop s.size) (ptC.drop s.size) L n o = some (L ++ [(n : Int)])) := hide (fun L n o => by
    rw [List.drop_eq_nil_iff.2 (by omega), nmF]
    intro c s' q p' h _
    cases h)
  obtain ⟨i0, hi0, hz0, hz1, hz2⟩ := info_parts int_info17
  clear hl hp19 hsl hpl hp
  generalize s.data.toList = sl at *
  go_enter Tryz.func84, Tryz.ntmps84
  go_wp2
  clear q1 q2
  go_loopw [6, 7, 8, 17] (fun v6 v7 v8 v17 wr => ∃ (k n : Nat) (o : Bool) (L : List Int), k ≤ s.size ∧ v17 = .int .i64 (k : Int) ∧ v7 = .int .i64 (n : Int) ∧ v8 = .bool o ∧ L.length ≤ k ∧ Hid (Below w.heap.size w wr) ∧ Hid (wr.ownsRow w.heap.size 3 1 v6 L.length (L.map (Value.int .i64))) ∧ Hid (nmR sl ptC = nmF (sl.drop k) (ptC.drop k) L n o ∧ n < 10 ^ rnC.getD k 0)) (fun _ _ _ v17 _ => s.size - (intOf v17).toNat)
  case atStart => exact ⟨0, 0, false, [], Nat.zero_le _, rfl, rfl, rfl, Nat.le_refl _, hide (Below.refl _ _), hide (World.ownsRow_nil _ _ _ _), hide ⟨ST.out, by decide⟩⟩
  case round =>
    obtain ⟨k, n, o, L, hk, rfl, rfl, rfl, hL, HB, HR, HN⟩ := hrel
    by_cases hlt : k < s.size
    · have hlp : k < p.size := by omega
      have bs := byteD s[k]
      have bp := byteD p[k]
      obtain ⟨dp, gp⟩ := DP.out k hlp
      have HN1 := hide HN.out.1
      rw [DS.out k hlt, dp] at HN1
      obtain ⟨r1, r2⟩ := rnC_step k (by omega)
      rw [gp] at r1
      have nb : n < 10000 := Nat.lt_of_lt_of_le HN.out.2 (Nat.le_trans (Nat.pow_le_pow_right (by decide) r2) (by decide))
      have NS : Hid (p[k] = 48 → n < 1000 ∧ ∀ x ≤ 9, 10 * n + x < 10 ^ rnC.getD (k + 1) 0) := hide (fun h => by
        obtain ⟨h1, h2⟩ := r1 h
        have := HN.out.2
        refine ⟨Nat.lt_of_lt_of_le this (Nat.le_trans (Nat.pow_le_pow_right (by decide) h2) (by decide)), fun x hx => ?_⟩
        rw [h1, Nat.pow_succ]
        omega)
      have H0 : Hid (0 < 10 ^ rnC.getD (k + 1) 0) := hide (Nat.pow_pos (by decide))
      have EQ : Hid (s[k].toNat = p[k].toNat → s[k] = p[k]) := hide (fun h => UInt8.toNat_inj.1 h)
      have E48 : Hid (p[k].toNat = 48 → p[k] = 48) := hide (fun h => UInt8.toNat_inj.1 h)
      have N48 : Hid (¬ p[k].toNat = 48 → p[k] ≠ 48) := hide (fun h e => h (by rw [e]; rfl))
      clear dp gp r1 r2 HN
      generalize hc : s[k].toNat = c at *
      generalize hq : p[k].toNat = q at *
      by_cases h48 : q = 48
      · have P48 := E48.out h48
        obtain ⟨nk, nx⟩ := NS.out P48
        have NX := hide nx
        have g1 : ((q : Int) == 48) = true := beq_iff_eq.2 (by omega)
        have g2 : ((q : Int) != 48) = false := by simp; omega
        rw [P48] at HN1
        clear EQ E48 N48 NS P48 nx
        by_cases d1 : c < 48
        · have E := hide (show nmR sl ptC = none by rw [HN1.out, nmF, if_neg (by simp), if_pos (by unfold isDg; omega)])
          have q1 : decide ((c : Int) < 48) = true := decide_eq_true (by omega)
          clear HN1 d1 NX h48
          go_wp2
          exact bodyPost_ret (v := .tuple #[.slice none 0 0, .bool false]) (by simp [results, Tryz.results84, go_sem]) rfl (NmPost.no HB.out E.out)
        · have q1 : decide ((c : Int) < 48) = false := decide_eq_false (by omega)
          by_cases d2 : 57 < c
          · have E := hide (show nmR sl ptC = none by rw [HN1.out, nmF, if_neg (by simp), if_pos (by unfold isDg; omega)])
            have q2 : decide ((57 : Int) < (c : Int)) = true := decide_eq_true (by omega)
            clear HN1 d1 d2 NX h48
            go_wp2
            exact bodyPost_ret (v := .tuple #[.slice none 0 0, .bool false]) (by simp [results, Tryz.results84, go_sem]) rfl (NmPost.no HB.out E.out)
          · have q2 : decide ((57 : Int) < (c : Int)) = false := decide_eq_false (by omega)
            have U := u8_digit (show 48 ≤ c by omega) (by omega)
            have N2 := hide (HN1.out.trans (nmF_dg (by unfold isDg; omega)))
            rw [hc] at N2
            obtain ⟨x, hx⟩ : ∃ x, x = c - 48 := ⟨_, rfl⟩
            rw [← hx] at U N2
            have hx9 : x ≤ 9 := by omega
            have B2 := hide (NX.out x hx9)
            have m1 := IntWalk.i64_in (10 * (n : Int)) (by omega)
            have m2 := IntWalk.i64_in (10 * (n : Int) + (x : Int)) (by omega)
            clear HN1 d1 d2 NX h48 hx
            go_wp2
            go_roundw
            case rel => exact ⟨k + 1, 10 * n + x, true, L, by omega, by go_num, by go_num, rfl, by omega, HB, HR, hide ⟨N2.out, B2.out⟩⟩
            case measure => simp [intOf]; omega
      · have P48 := N48.out h48
        have g1 : ((q : Int) == 48) = false := beq_eq_false_iff_ne.2 (by omega)
        have g2 : ((q : Int) != 48) = true := by simp; omega
        clear E48 N48 NS
        by_cases he : c = q
        · have PE := EQ.out he
          have f1 : ((c : Int) == (q : Int)) = true := beq_iff_eq.2 (by omega)
          have f2 : ((c : Int) != (q : Int)) = false := by simp; omega
          have N2 := hide HN1.out
          rw [PE] at N2
          have N3 := hide (N2.out.trans (nmF_sp P48))
          clear HN1 N2 PE EQ P48 h48 he
          cases o with
          | true =>
            have hL9 : L.length ≤ 19 := by omega
            have NE : Nonempty (OwnW wr []) := ⟨⟨_, Own.start wr⟩⟩
            go_wp2_with fail
            refine wp_region_own (w := wr) (L := []) (by kernel_rfl) (by kernel_rfl) (Own.start wr) ?_
            repeat (go_big_quiet_step (fail))
            refine wpQuiet_nil ?_
            rintro W ⟨⟨W, HO⟩, rfl⟩
            have HB9 := hide (below_via HB.out HB.out.size HO.1)
            have HR9 := hide (row_below HR.out HO.1)
            clear HO NE
            go_wp2_with (at_builtin; refine wpList_append_own _ rfl _ _ 22 rfl w.heap.size 3 i0 (.int .i64 0) 1 8 Tryz.underlying22 hi0 hz0 hz1 hz2 rfl (by decide) _ L.length (L.map (Value.int .i64)) rfl (HR9.out.alloc (.cells #[.int .i64 (n : Int)] 3)) ⟨W.heap.size, 0, none⟩ 1 1 [.int .i64 (n : Int)] rfl rfl (World.news_of_block (cs := #[.int .i64 (n : Int)]) (t := 3) (fr := (0, 0)) (heap_alloc_new W _)) (by simp [Value.oneCell']) (by unfold maxLen; omega) (by omega) (by have := HB9.out.size; simp; omega) ?_; intro v' w5 hown4 hgrow _)
            have B5H := hide ((HB9.out.alloc HB9.out.size (.cells #[.int .i64 (n : Int)] 3)).grown hgrow (by have := HB9.out.size; simp; omega) (fun k hk => ((HR9.out.alloc (.cells #[.int .i64 (n : Int)] 3)).lt k hk).1))
            have R5H := hide hown4
            clear hown4 hgrow HR9 HB9
            go_wp2
            go_roundw
            case rel => exact ⟨k + 1, 0, false, L ++ [(n : Int)], by omega, by go_num, rfl, rfl, by simp; omega, B5H, hide (by rw [List.length_append, List.map_append]; exact R5H.out), hide ⟨N3.out.trans (by simp), H0.out⟩⟩
            case measure => simp [intOf]; omega
          | false =>
            have NE : Nonempty (OwnW wr []) := ⟨⟨_, Own.start wr⟩⟩
            go_wp2_with fail
            refine wp_region_own (w := wr) (L := []) (by kernel_rfl) (by kernel_rfl) (Own.start wr) ?_
            repeat (go_big_quiet_step (fail))
            refine wpQuiet_nil ?_
            rintro W ⟨⟨W, HO⟩, rfl⟩
            have HB9 := hide (below_via HB.out HB.out.size HO.1)
            have HR9 := hide (row_below HR.out HO.1)
            clear HO NE
            go_wp2
            go_roundw
            case rel => exact ⟨k + 1, 0, false, L, by omega, by go_num, rfl, rfl, by omega, HB9, HR9, hide ⟨N3.out, H0.out⟩⟩
            case measure => simp [intOf]; omega
        · have E := hide (show nmR sl ptC = none by rw [HN1.out, nmF, if_pos P48, if_pos (fun e => he (by rw [← hc, ← hq, e]))])
          have f1 : ((c : Int) == (q : Int)) = false := beq_eq_false_iff_ne.2 (by omega)
          have f2 : ((c : Int) != (q : Int)) = true := by simp; omega
          clear HN1 EQ P48 h48 he
          have NE : Nonempty (OwnW wr []) := ⟨⟨_, Own.start wr⟩⟩
          go_wp2_with fail
          refine wp_region_own (w := wr) (L := []) (by kernel_rfl) (by kernel_rfl) (Own.start wr) ?_
          repeat (go_big_quiet_step (fail))
          refine wpQuiet_nil ?_
          rintro W ⟨⟨W, HO⟩, rfl⟩
          have HB9 := hide (below_via HB.out HB.out.size HO.1)
          have HR9 := hide (row_below HR.out HO.1)
          clear HO NE
          go_wp2
          exact bodyPost_ret (v := .tuple #[.slice none 0 0, .bool false]) (by simp [results, Tryz.results84, go_sem]) rfl (NmPost.no HB9.out E.out)
    · obtain rfl : k = s.size := by omega
      have N2 := hide (HN.out.1.trans (END.out L n o))
      have hL9 : L.length ≤ 19 := by omega
      clear HN END DS DP ST
      go_wp2_with (at_builtin; refine wpList_append_own _ rfl _ _ 22 rfl w.heap.size 3 i0 (.int .i64 0) 1 8 Tryz.underlying22 hi0 hz0 hz1 hz2 rfl (by decide) _ L.length (L.map (Value.int .i64)) rfl (HR.out.alloc (.cells #[.int .i64 (n : Int)] 3)) ⟨wr.heap.size, 0, none⟩ 1 1 [.int .i64 (n : Int)] rfl rfl (World.news_of_block (cs := #[.int .i64 (n : Int)]) (t := 3) (fr := (0, 0)) (heap_alloc_new wr _)) (by simp [Value.oneCell']) (by unfold maxLen; omega) (by omega) (by have := HB.out.size; simp; omega) ?_; intro v' w5 hown4 hgrow _)
      have B5H := hide ((HB.out.alloc HB.out.size (.cells #[.int .i64 (n : Int)] 3)).grown hgrow (by have := HB.out.size; simp; omega) (fun k hk => ((HR.out.alloc (.cells #[.int .i64 (n : Int)] 3)).lt k hk).1))
      have R5H := hide hown4
      clear hown4 hgrow HR HB
      go_wp2
      exact bodyPost_ret (v := .tuple #[v', .bool true]) (by simp [results, Tryz.results84, go_sem]) rfl ⟨B5H.out, .inr ⟨L ++ [(n : Int)], v', N2.out, rfl, by rw [List.length_append, List.map_append]; exact R5H.out⟩⟩
end Go.Proofs.YtkjndkeboeieoaaGreatDoor

namespace Go.Proofs.YtkjndkeboeieoaaGreatDoor
open Go Go.RowKit

theorem vd_cases (y m d : Nat) : (decide (VD y m d) = false ∧ decide ((1 : Int) ≤ (y : Int)) = false) ∨ (decide (VD y m d) = false ∧ decide ((1 : Int) ≤ (y : Int)) = true ∧ decide ((y : Int) ≤ 9999) = false) ∨ (decide (VD y m d) = false ∧ decide ((1 : Int) ≤ (y : Int)) = true ∧ decide ((y : Int) ≤ 9999) = true ∧ decide ((1 : Int) ≤ (m : Int)) = false) ∨ (decide (VD y m d) = false ∧ decide ((1 : Int) ≤ (y : Int)) = true ∧ decide ((y : Int) ≤ 9999) = true ∧ decide ((1 : Int) ≤ (m : Int)) = true ∧ decide ((m : Int) ≤ 12) = false) ∨ (decide (VD y m d) = false ∧ decide ((1 : Int) ≤ (y : Int)) = true ∧ decide ((y : Int) ≤ 9999) = true ∧ decide ((1 : Int) ≤ (m : Int)) = true ∧ decide ((m : Int) ≤ 12) = true ∧ decide ((1 : Int) ≤ (d : Int)) = false) ∨ (decide (VD y m d) = false ∧ decide ((1 : Int) ≤ (y : Int)) = true ∧ decide ((y : Int) ≤ 9999) = true ∧ decide ((1 : Int) ≤ (m : Int)) = true ∧ decide ((m : Int) ≤ 12) = true ∧ decide ((1 : Int) ≤ (d : Int)) = true ∧ decide (d ≤ mdN y m) = false) ∨ (decide (VD y m d) = true ∧ decide ((1 : Int) ≤ (y : Int)) = true ∧ decide ((y : Int) ≤ 9999) = true ∧ decide ((1 : Int) ≤ (m : Int)) = true ∧ decide ((m : Int) ≤ 12) = true ∧ decide ((1 : Int) ≤ (d : Int)) = true ∧ decide (d ≤ mdN y m) = true) := by
  by_cases h0 : 1 ≤ y
  case neg => exact .inl ⟨decide_eq_false (fun h => h0 h.1.1), decide_eq_false (by omega)⟩
  by_cases h1 : y ≤ 9999
  case neg => exact .inr (.inl ⟨decide_eq_false (fun h => h1 h.1.2), decide_eq_true (by omega), decide_eq_false (by omega)⟩)
  by_cases h2 : 1 ≤ m
  case neg => exact .inr (.inr (.inl ⟨decide_eq_false (fun h => h2 h.2.1.1), decide_eq_true (by omega), decide_eq_true (by omega), decide_eq_false (by omega)⟩))
  by_cases h3 : m ≤ 12
  case neg => exact .inr (.inr (.inr (.inl ⟨decide_eq_false (fun h => h3 h.2.1.2), decide_eq_true (by omega), decide_eq_true (by omega), decide_eq_true (by omega), decide_eq_false (by omega)⟩)))
  by_cases h4 : 1 ≤ d
  case neg => exact .inr (.inr (.inr (.inr (.inl ⟨decide_eq_false (fun h => h4 h.2.2.1), decide_eq_true (by omega), decide_eq_true (by omega), decide_eq_true (by omega), decide_eq_true (by omega), decide_eq_false (by omega)⟩))))
  by_cases h5 : d ≤ mdN y m
  case neg => exact .inr (.inr (.inr (.inr (.inr (.inl ⟨decide_eq_false (fun h => h5 h.2.2.2), decide_eq_true (by omega), decide_eq_true (by omega), decide_eq_true (by omega), decide_eq_true (by omega), decide_eq_true (by omega), decide_eq_false (by omega)⟩)))))
  exact .inr (.inr (.inr (.inr (.inr (.inr ⟨decide_eq_true ⟨⟨h0, h1⟩, ⟨h2, h3⟩, h4, h5⟩, decide_eq_true (by omega), decide_eq_true (by omega), decide_eq_true (by omega), decide_eq_true (by omega), decide_eq_true (by omega), decide_eq_true (by omega)⟩)))))
set_option maxRecDepth 100000 in
set_option maxHeartbeats 4000000 in
theorem validdate_any (y m d : Nat) (w : World) : Calls Tryz.prog 85 #[.agg #[.int .i64 (y : Int), .int .i64 (m : Int), .int .i64 (d : Int)]] w (BPost (decide (VD y m d)) w) := by
  have X := (Own.start w).alloc #[.int .i64 (y : Int), .int .i64 (m : Int), .int .i64 (d : Int)] 96
  have hr := X.r1
  have M := hide (fun (h1 : decide ((1 : Int) ≤ (m : Int)) = true) (h2 : decide ((m : Int) ≤ 12) = true) W => month_any y m (by have := of_decide_eq_true h1; omega) (by have := of_decide_eq_true h2; omega) W)
  unfold MdPost at M
  have NE : Nonempty (OwnW w [(w.heap.size, 96, #[.int .i64 (y : Int), .int .i64 (m : Int), .int .i64 (d : Int)])]) := ⟨⟨_, X⟩⟩
  have C1 := fun x : OwnW w [(w.heap.size, 96, #[.int .i64 (y : Int), .int .i64 (m : Int), .int .i64 (d : Int)])] => x.own.r1
  have HX := hide X
  clear X
  have key := vd_cases y m d
  generalize decide (VD y m d) = v at *
  generalize mdN y m = md at *
  rcases key with ⟨V, q0⟩ | ⟨V, q0, q1⟩ | ⟨V, q0, q1, q2⟩ | ⟨V, q0, q1, q2, q3⟩ | ⟨V, q0, q1, q2, q3, q4⟩ | ⟨V, q0, q1, q2, q3, q4, q5⟩ | ⟨V, q0, q1, q2, q3, q4, q5⟩
  all_goals
    replace V := hide V
    try replace M := hide (M.out q2 q3)
    go_enter Tryz.func85, Tryz.ntmps85
    go_wp2_with fail
    refine wp_region_own (w := w) (L := [(w.heap.size, 96, #[.int .i64 (y : Int), .int .i64 (m : Int), .int .i64 (d : Int)])]) (by kernel_rfl) (by kernel_rfl) HX.out ?_
    repeat (go_big_quiet_step ((rename_i x; with_reducible exact own_call (M.out _))))
    refine wpQuiet_nil ?_
    rintro W ⟨⟨W, HO⟩, rfl⟩
    have HZ := hide HO.1
    clear HO HX hr C1 NE
    go_wp2
    go_ret
    exact BPost.mk V.out HZ.out
set_option maxRecDepth 100000 in
set_option maxHeartbeats 4000000 in
theorem number_any (y m d : Nat) (w : World) (hv : VD y m d) : Calls Tryz.prog 108 #[.agg #[.int .i64 (y : Int), .int .i64 (m : Int), .int .i64 (d : Int)]] w (RetV (.tuple #[.int .i64 ((dnN y m d : Int) - 730119), .int .i64 0]) w) := by
  have V := hide (fun W => validdate_any y m d W)
  rw [decide_eq_true hv] at V
  obtain ⟨⟨y1, y2⟩, ⟨m1, m2⟩, d1, d2⟩ := hv
  have hb := bf_lt (show y ≤ 10000 by omega)
  have hm := md_bd y m m1 m2
  have db : d ≤ 31 := by omega
  have BY := hide (fun W => before_any y y1 (by omega) W)
  have DN : Hid ((dnN y m d : Int) = (bfN y : Int) + (cuN y (m - 1) : Int) + (d : Int) - 1) := hide (by unfold dnN; omega)
  have MM := hide (fun k h1 h2 W => month_any y k h1 h2 W)
  unfold MdPost at MM
  have X := (Own.start w).alloc #[.int .i64 (y : Int), .int .i64 (m : Int), .int .i64 (d : Int)] 96
  have hr := X.r1
  have s1 : IntKind.i64.wrap ((bfN y : Int) - 730119 + (d : Int)) = (bfN y : Int) - 730119 + (d : Int) := IntWalk.i64_in _ (by omega)
  have s2 : IntKind.i64.wrap ((bfN y : Int) - 730119 + (d : Int) - 1) = (bfN y : Int) - 730119 + (d : Int) - 1 := IntWalk.i64_in _ (by omega)
  obtain ⟨z, hz⟩ : ∃ z, z = (bfN y : Int) - 730119 := ⟨_, rfl⟩
  have zb : -730119 ≤ z ∧ z ≤ 3000000 := by omega
  have C12 := hide (fun k (h : k ≤ 12) => cuN_mono y h)
  have c366 : cuN y 12 ≤ 366 := by rw [cu_12]; split <;> omega
  rw [← hz] at BY s1 s2
  have HZ := hide hz
  clear hz d2 hb
  go_enter Tryz.func108, Tryz.ntmps108
  go_wp2_with fail
  refine (V.out _).mono ?_
  rintro e w1 ⟨rfl, hb⟩
  have HX := hide (X.to hb)
  clear hr hb X
  have NE : Nonempty (OwnW w [(w.heap.size, 96, #[.int .i64 (y : Int), .int .i64 (m : Int), .int .i64 (d : Int)])]) := ⟨⟨_, HX.out⟩⟩
  have C1 := fun x : OwnW w [(w.heap.size, 96, #[.int .i64 (y : Int), .int .i64 (m : Int), .int .i64 (d : Int)])] => x.own.r1
  go_wp2_with fail
  refine wp_region_own (w := w) (L := [(w.heap.size, 96, #[.int .i64 (y : Int), .int .i64 (m : Int), .int .i64 (d : Int)])]) (by kernel_rfl) (by kernel_rfl) HX.out ?_
  repeat (go_big_quiet_step ((rename_i x; with_reducible exact own_same (BY.out _))))
  refine wpQuiet_nil ?_
  rintro W ⟨⟨W, HO⟩, rfl⟩
  have HOO := hide HO
  clear HO HX C1 NE BY V s1 s2
  go_wp2
  go_loopw [4, 5] (fun v4 v5 wr => ∃ k : Nat, 1 ≤ k ∧ k ≤ m ∧ v5 = .int .i64 (k : Int) ∧ v4 = .int .i64 (z + (d : Int) - 1 + (cuN y (k - 1) : Int)) ∧ Hid (Own w wr [(w.heap.size, 96, #[.int .i64 (y : Int), .int .i64 (m : Int), .int .i64 (d : Int)])])) (fun _ v5 _ => m - (intOf v5).toNat)
  case atStart => exact ⟨1, Nat.le_refl _, m1, rfl, by simp [cuN], HOO⟩
  case round =>
    obtain ⟨k, k1, k2, rfl, rfl, HO⟩ := hrel
    have hr := HO.out.r1
    by_cases hlt : k < m
    · have M := hide (fun W => MM.out k k1 (by omega) W)
      have bk := md_bd y k k1 (by omega)
      have cs : cuN y (k - 1 + 1) = cuN y (k - 1) + mdN y (k - 1 + 1) := rfl
      rw [show k - 1 + 1 = k by omega] at cs
      have ck := C12.out k (by omega)
      have s1 : IntKind.i64.wrap (z + (d : Int) - 1 + (cuN y (k - 1) : Int) + (mdN y k : Int)) = z + (d : Int) - 1 + (cuN y k : Int) := (IntWalk.i64_in _ (by omega)).trans (by omega)
      have E : Hid (cuN y (k + 1 - 1) = cuN y k) := hide (by rw [show k + 1 - 1 = k by omega])
      clear cs ck
      generalize mdN y k = md at *
      generalize cuN y (k - 1) = c0 at *
      go_wp2_with fail
      refine (M.out _).mono ?_
      rintro e w2 ⟨rfl, hb⟩
      have HO2 := hide (HO.out.to hb)
      clear hb hr HO
      go_wp2
      go_roundw
      case rel => exact ⟨k + 1, by omega, by omega, by go_num, by rw [E.out], HO2⟩
      case measure => simp [intOf]; omega
    · obtain rfl : k = m := by omega
      have E : Hid ((dnN y k d : Int) - 730119 = z + (d : Int) - 1 + (cuN y (k - 1) : Int)) := hide (by rw [DN.out, HZ.out]; omega)
      generalize cuN y (k - 1) = c0 at *
      go_wp2
      go_ret2
      exact ⟨by rw [E.out]; rfl, HO.out.1⟩
/-- the instant of a date and seconds, or an error -/
def atV2 (t : Int) : Int := if insB t = true then t else 0
def atE2 (t : Int) : Int := if insB t = true then 0 else 5
theorem at_yes {t : Int} (h : insB t = true) : atV2 t = t ∧ atE2 t = 0 := by simp [atV2, atE2, h]
theorem at_no {t : Int} (h : insB t = false) : atV2 t = 0 ∧ atE2 t = 5 := by simp [atV2, atE2, h]
set_option maxRecDepth 100000 in
set_option maxHeartbeats 4000000 in
theorem at_any (y m d s : Nat) (w : World) (hv : VD y m d) (hs : s < 86400) : Calls Tryz.prog 86 #[.agg #[.int .i64 (y : Int), .int .i64 (m : Int), .int .i64 (d : Int)], .int .i64 (s : Int)] w
    (RetV (.tuple #[.int .i64 (atV2 (((dnN y m d : Int) - 730119) * 86400 + (s : Int))), .int .i64 (atE2 (((dnN y m d : Int) - 730119) * 86400 + (s : Int)))]) w) := by
  have N := hide (fun W => number_any y m d W hv)
  have yr := dn_year hv
  have yb := bf_lt (show y + 1 ≤ 10000 by have := hv.1; omega)
  have I := hide (fun t W => cinstant_any t W)
  have X := (Own.start w).alloc #[.int .i64 (y : Int), .int .i64 (m : Int), .int .i64 (d : Int)] 96
  have hr := X.r1
  obtain ⟨n, hn⟩ : ∃ n, n = (dnN y m d : Int) - 730119 := ⟨_, rfl⟩
  rw [← hn] at N ⊢
  have nb : -730119 ≤ n ∧ n ≤ 3000000 := by omega
  have s1 : IntKind.i64.wrap (n * 86400) = n * 86400 := IntWalk.i64_in _ (by omega)
  obtain ⟨t, ht⟩ : ∃ t, t = n * 86400 + (s : Int) := ⟨_, rfl⟩
  have s2 : IntKind.i64.wrap (n * 86400 + (s : Int)) = t := (IntWalk.i64_in _ (by omega)).trans ht.symm
  rw [← ht]
  have q1 : decide ((s : Int) < 0) = false := decide_eq_false (by omega)
  have q2 : decide ((86400 : Int) ≤ (s : Int)) = false := decide_eq_false (by omega)
  clear hv yr yb hn ht
  rcases Bool.eq_false_or_eq_true (insB t) with hi | hi
  all_goals
    first | have E := hide (at_yes hi) | have E := hide (at_no hi)
    replace I := hide (I.out t)
    rw [hi] at I
    clear hi
    go_enter Tryz.func86, Tryz.ntmps86
    go_wp2_with fail
    refine (N.out _).mono ?_
    rintro e w1 ⟨rfl, hb⟩
    replace X := X.to hb
    clear hb hr
    go_wp2_with fail
    refine (I.out _).mono ?_
    rintro e w2 ⟨rfl, rfl⟩
    go_wp2
    go_ret2
    exact ⟨by rw [E.out.1, E.out.2]; rfl, X.1⟩
end Go.Proofs.YtkjndkeboeieoaaGreatDoor
