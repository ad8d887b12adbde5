/- The program's Parse of a table of intensities: what it returns; nothing that was there is turned. (Printed by gen_itp.py.) -/
import Derived.Test.YtnhimgabcljahaaGreatDoorLns
import Derived.Test.YtnhimgabcljahaaGreatDoorItPg
import Derived.Test.YtnhimgabcljahaaGreatDoorItVal
import Derived.Test.YtnhimgabcljahaaGreatDoorHeldT
import Derived.Test.YtnhimgabcljahaaGreatDoorOwn3
namespace Go.Proofs.YtnhimgabcljahaaGreatDoor
open Go Go.RowKit Go.Shelf

attribute [local go_sem] Oper.semAt_some

def colT (n : Int) : Int := if n = 0 then 0 else 1
def PrtPost (s : List UInt8) (w : World) (e : Ending) (w' : World) : Prop :=
  Below w.heap.size w w' ∧ ∃ a : TabA, e = .returned (.tuple #[(prF s).1.val a, .agg #[.int .i64 (prF s).2.1, .int .i64 (colT (prF s).2.1)], .int .i64 (prF s).2.2]) ∧ TabSl w' (prF s).1 a
def aN : TabA := ⟨none, none, none, 0, 0, 0⟩
theorem tabN (w : World) : TabSl w T0 aN := ⟨IntSl.nil _ _, IntSl.nil _ _, ⟨by show 0 ≤ maxLen; unfold maxLen; omega, fun h => by cases h⟩, Nat.le_refl _, Nat.le_refl _, Nat.le_refl _⟩
theorem PrtPost.err {s : List UInt8} {w w' : World} {ln er : Int} (hb : Below w.heap.size w w') (h : prF s = (T0, ln, er)) : PrtPost s w (.returned (.tuple #[.agg #[.slice none 0 0, .slice none 0 0, .slice none 0 0], .agg #[.int .i64 ln, .int .i64 (colT ln)], .int .i64 er])) w' :=
  ⟨hb, aN, by rw [h]; rfl, by rw [h]; exact tabN _⟩
theorem PrtPost.bad {s : List UInt8} {w w' : World} {n : Nat} (hb : Below w.heap.size w w') (h : prF s = (T0, (n : Int) + 1, 7)) : PrtPost s w (.returned (.tuple #[.agg #[.slice none 0 0, .slice none 0 0, .slice none 0 0], .agg #[.int .i64 ((n : Int) + 1), .int .i64 1], .int .i64 7])) w' := by
  have e : colT ((n : Int) + 1) = 1 := by unfold colT; rw [if_neg (by omega)]
  have := PrtPost.err hb h
  rw [e] at this
  exact this
/-- the boxes of Parse -/
abbrev RB (b : Nat) (D P V : Value) (ln : Int) (r0 p0 : Array Value) (er : Int) : List (Nat × TypeId × Array Value) :=
  [(b + 1 + 1 + 1 + 1, 29, #[.int .i64 ln, .int .i64 1]), (b + 1 + 1 + 1, 25, #[D, P, V]), (b + 1 + 1, 30, #[.int .i64 er]), (b + 1, 29, p0), (b, 25, r0)]
theorem reads_blk {W : World} {g : Nat} {t : TypeId} {u : Value} (h : Blk W g t #[u]) : Reads W W.heap.size 1 (some ⟨g, 0, none⟩) 1 [u] := ⟨rfl, fun _ => ⟨_, rfl, h.lt, World.news_of_block (cs := #[u]) h⟩⟩
theorem ints_infoP : (Tryz.prog.info? 22).map (fun i => (i.zero, i.size, i.bytes)) = some (some (.slice none 0 0), 1, 24) := by kernel_rfl
abbrev zT : Array Value := #[.slice none 0 0, .slice none 0 0, .slice none 0 0]
abbrev zP : Array Value := #[.int .i64 0, .int .i64 0]
section
variable {w W W' : World} {B b : Nat} {D P V D' P' V' : Value} {d0 : Option (List Int)} {ps : List Int} {VL : List Value} {rs : List (List Int)} {ln er : Int} {r0 p0 : Array Value}
theorem Pg.taken {R : List (Nat × TypeId × Array Value)} {dk : Nat} (h : Pg w W B R D P V d0 ps VL rs) (hD : B ≤ dk) (hK : W.heap[dk]? = some (.deferred (some []))) : Pg w (W.putObj dk (.deferred none)) B R D P V d0 ps VL rs :=
  h.turn (grownBy_putObj' W dk (.deferred none)) (fun r hr => by cases hr; exact ⟨hD, _, hK, rfl⟩)
/-- the results are stored -/
theorem Pg.six {a0 a1 a2 c0 c1 : Value} (h : Pg w W B (RB b D P V ln #[a0, a1, a2] #[c0, c1] er) D' P' V' d0 ps VL rs) (hb : w.heap.size ≤ b) (x0 x1 x2 y0 y1 : Value) (z : Int) :
    Pg w ((((((W.setCell ⟨b, 0, none⟩ x0).setCell ⟨b, 1, none⟩ x1).setCell ⟨b, 2, none⟩ x2).setCell ⟨b + 1, 0, none⟩ y0).setCell ⟨b + 1, 1, none⟩ y1).setCell ⟨b + 1 + 1, 0, none⟩ (.int .i64 z)) B (RB b D P V ln #[x0, x1, x2] #[y0, y1] z) D' P' V' d0 ps VL rs := by
  have n1 : ∀ x ∈ [(b + 1 + 1 + 1 + 1, 29, #[Value.int .i64 ln, .int .i64 1]), (b + 1 + 1 + 1, 25, #[D, P, V]), (b + 1 + 1, 30, #[.int .i64 er]), (b + 1, 29, #[c0, c1])] ++ [], x.1 ≠ b := fun x hx => by
    simp only [List.append_nil, List.mem_cons, List.not_mem_nil, or_false] at hx
    rcases hx with rfl | rfl | rfl | rfl
    all_goals (show (_ : Nat) ≠ _; omega)
  have n2 : ∀ x ∈ [(b + 1 + 1 + 1 + 1, 29, #[Value.int .i64 ln, .int .i64 1]), (b + 1 + 1 + 1, 25, #[D, P, V]), (b + 1 + 1, 30, #[.int .i64 er])] ++ [(b, 25, #[x0, x1, x2])], x.1 ≠ b + 1 := fun x hx => by
    simp only [List.cons_append, List.nil_append, List.mem_cons, List.not_mem_nil, or_false] at hx
    rcases hx with rfl | rfl | rfl | rfl
    all_goals (show (_ : Nat) ≠ _; omega)
  have n3 : ∀ x ∈ [(b + 1 + 1 + 1 + 1, 29, #[Value.int .i64 ln, .int .i64 1]), (b + 1 + 1 + 1, 25, #[D, P, V])] ++ [(b + 1, 29, #[y0, y1]), (b, 25, #[x0, x1, x2])], x.1 ≠ b + 1 + 1 := fun x hx => by
    simp only [List.cons_append, List.nil_append, List.mem_cons, List.not_mem_nil, or_false] at hx
    rcases hx with rfl | rfl | rfl | rfl
    all_goals (show (_ : Nat) ≠ _; omega)
  have k1 := Pg.turnR (R1 := [(b + 1 + 1 + 1 + 1, 29, #[.int .i64 ln, .int .i64 1]), (b + 1 + 1 + 1, 25, #[D, P, V]), (b + 1 + 1, 30, #[.int .i64 er]), (b + 1, 29, #[c0, c1])]) (R2 := []) h hb n1 0 x0 (cs' := #[x0, a1, a2]) rfl
  have k2 := Pg.turnR (R1 := [(b + 1 + 1 + 1 + 1, 29, #[.int .i64 ln, .int .i64 1]), (b + 1 + 1 + 1, 25, #[D, P, V]), (b + 1 + 1, 30, #[.int .i64 er]), (b + 1, 29, #[c0, c1])]) (R2 := []) k1 hb n1 1 x1 (cs' := #[x0, x1, a2]) rfl
  have k3 := Pg.turnR (R1 := [(b + 1 + 1 + 1 + 1, 29, #[.int .i64 ln, .int .i64 1]), (b + 1 + 1 + 1, 25, #[D, P, V]), (b + 1 + 1, 30, #[.int .i64 er]), (b + 1, 29, #[c0, c1])]) (R2 := []) k2 hb n1 2 x2 (cs' := #[x0, x1, x2]) rfl
  have k4 := Pg.turnR (R1 := [(b + 1 + 1 + 1 + 1, 29, #[.int .i64 ln, .int .i64 1]), (b + 1 + 1 + 1, 25, #[D, P, V]), (b + 1 + 1, 30, #[.int .i64 er])]) (R2 := [(b, 25, #[x0, x1, x2])]) k3 (by omega) n2 0 y0 (cs' := #[y0, c1]) rfl
  have k5 := Pg.turnR (R1 := [(b + 1 + 1 + 1 + 1, 29, #[.int .i64 ln, .int .i64 1]), (b + 1 + 1 + 1, 25, #[D, P, V]), (b + 1 + 1, 30, #[.int .i64 er])]) (R2 := [(b, 25, #[x0, x1, x2])]) k4 (by omega) n2 1 y1 (cs' := #[y0, y1]) rfl
  exact Pg.turnR (R1 := [(b + 1 + 1 + 1 + 1, 29, #[.int .i64 ln, .int .i64 1]), (b + 1 + 1 + 1, 25, #[D, P, V])]) (R2 := [(b + 1, 29, #[y0, y1]), (b, 25, #[x0, x1, x2])]) k5 (by omega) n3 0 (.int .i64 z) (cs' := #[.int .i64 z]) rfl
theorem kp_six (W : World) {k b : Nat} (h0 : k ≠ b) (h1 : k ≠ b + 1) (h2 : k ≠ b + 1 + 1) (x0 x1 x2 y0 y1 z : Value) :
    Kp k W ((((((W.setCell ⟨b, 0, none⟩ x0).setCell ⟨b, 1, none⟩ x1).setCell ⟨b, 2, none⟩ x2).setCell ⟨b + 1, 0, none⟩ y0).setCell ⟨b + 1, 1, none⟩ y1).setCell ⟨b + 1 + 1, 0, none⟩ z) :=
  (((((Kp.set _ _ _ _ h0).trans (Kp.set _ _ _ _ h0)).trans (Kp.set _ _ _ _ h0)).trans (Kp.set _ _ _ _ h1)).trans (Kp.set _ _ _ _ h1)).trans (Kp.set _ _ _ _ h2)
/-- the line's number goes on -/
theorem Pg.line (h : Pg w W B (RB b D P V ln r0 p0 er) D' P' V' d0 ps VL rs) (hb : w.heap.size ≤ b) (n : Int) : Pg w (W.setCell ⟨b + 1 + 1 + 1 + 1, 0, none⟩ (.int .i64 n)) B (RB b D P V n r0 p0 er) D' P' V' d0 ps VL rs :=
  Pg.turnR (R1 := []) (R2 := [(b + 1 + 1 + 1, 25, #[D, P, V]), (b + 1 + 1, 30, #[.int .i64 er]), (b + 1, 29, p0), (b, 25, r0)]) h (by omega) (fun x hx => by
    simp only [List.nil_append, List.mem_cons, List.not_mem_nil, or_false] at hx
    rcases hx with rfl | rfl | rfl | rfl
    all_goals (show (_ : Nat) ≠ _; omega)) 0 _ rfl
/-- a field of the table is stored -/
theorem Pg.field (h : Pg w W B (RB b D P V ln r0 p0 er) D' P' V' d0 ps VL rs) (hb : w.heap.size ≤ b) (i : Nat) (u X Y Z : Value) (e : #[X, Y, Z] = (#[D, P, V] : Array Value).setIfInBounds i u) : Pg w (W.setCell ⟨b + 1 + 1 + 1, i, none⟩ u) B (RB b X Y Z ln r0 p0 er) D' P' V' d0 ps VL rs :=
  Pg.turnR (R1 := [(b + 1 + 1 + 1 + 1, 29, #[.int .i64 ln, .int .i64 1])]) (R2 := [(b + 1 + 1, 30, #[.int .i64 er]), (b + 1, 29, p0), (b, 25, r0)]) h (by omega) (fun x hx => by
    simp only [List.cons_append, List.nil_append, List.mem_cons, List.not_mem_nil, or_false] at hx
    rcases hx with rfl | rfl | rfl | rfl
    all_goals (show (_ : Nat) ≠ _; omega)) i u e
/-- the table lies in memory -/
theorem Pg.tab {R : List (Nat × TypeId × Array Value)} {d : List Int} (h : Pg w W B R D P V (some d) (rs.map (·.getD 0 0)) VL rs) (hd : ∀ n ∈ d, numR n) (hr : ∀ l ∈ rs, l ≠ [] ∧ ∀ n ∈ l, numR n) (hl : d.length ≤ 900001) (hl2 : ∀ l ∈ rs, l.length ≤ 900001) (hn : rs.length ≤ 900001) :
    ∃ a : TabA, D = .slice a.A1 (tbO (d :: rs)).ds.length a.c1 ∧ P = .slice a.A2 (tbO (d :: rs)).ps.length a.c2 ∧ V = .slice a.A3 (tbO (d :: rs)).rows.length a.c3 ∧ TabSl W (tbO (d :: rs)) a := by
  obtain ⟨l, e, hL⟩ : ∃ l, some d = some l ∧ LineAt W B P 0 D l := by rcases h.d with ⟨e, _⟩ | h; cases e; exact h
  cases e
  obtain ⟨A1, c1, e1, s1, l1⟩ := hL.sl (by omega) hd
  rw [List.drop_zero] at e1 s1 l1
  have hpl : (rs.map (·.getD 0 0)).length = rs.length := by simp
  have pn : ∀ n ∈ rs.map (·.getD 0 0), numR n := fun n hn => by
    obtain ⟨l, hl, rfl⟩ := List.mem_map.1 hn
    have := hr l hl
    cases l with
    | nil => exact absurd rfl this.1
    | cons x t => exact this.2 x (List.mem_cons_self ..)
  obtain ⟨A2, c2, e2, s2⟩ := IntSl.of_row h.p (by omega) (fun i hi => by
    have := pn _ (List.getElem_mem hi)
    unfold numR at this
    omega)
  have l2 : rs.length ≤ c2 := by
    have q := h.p
    rw [e2] at q
    have := row_capN q
    omega
  obtain ⟨A3, c3, e3, l3⟩ := row_anyG h.v
  have hv := h.r.1
  refine ⟨⟨A1, A2, A3, c1, c2, c3⟩, e1, e2, by rw [e3, ← hv]; show _ = Value.slice A3 (rs.map List.tail).length c3; rw [List.length_map], s1, s2, ⟨?_, fun h0 => ?_⟩, l1, by show (rs.map (·.getD 0 0)).length ≤ c2; omega, by show (rs.map List.tail).length ≤ c3; simp; omega⟩
  · show (rs.map List.tail).length ≤ maxLen
    simp; unfold maxLen; omega
  · have h0' : 0 < rs.length := by simpa [tbO] using h0
    rcases h.v.2 with ⟨_, e0⟩ | ⟨g, cap, cur, ev, hg, hcell, hnc, _, hsz, htake⟩
    · omega
    · rw [e3] at ev
      injection ev with ea _ _
      refine ⟨g, 0, ea, (Array.getElem?_eq_some_iff.1 hcell).1, fun i hi => ?_⟩
      have hi' : i < VL.length := by rw [← hv]; simpa [tbO] using hi
      obtain ⟨R, c, ex, sx, lx⟩ := (h.r.2 i hi').sl (by
        have := hl2 (rs.getD i []) (by rw [List.getD_eq_getElem?_getD, List.getElem?_eq_getElem (by omega)]; exact List.getElem_mem _)
        omega) (fun n hn' => (hr (rs.getD i []) (by rw [List.getD_eq_getElem?_getD, List.getElem?_eq_getElem (by omega)]; exact List.getElem_mem _)).2 n hn')
      have er : (tbO (d :: rs)).rows.getD i [] = (rs.getD i []).drop 1 := by
        show (rs.map List.tail).getD i [] = _
        simp [List.getD_eq_getElem?_getD, List.getElem?_eq_getElem (show i < rs.length by omega)]
      rw [er]
      refine ⟨R, c, ?_, sx, lx⟩
      have hc := h.v.cells (g := g) (by rw [e3, ea]; rfl) i VL[i] (by simp [hi'])
      have e' : (⟨g, 0, none⟩ : Addr).add i = ⟨g, 0 + i, none⟩ := by unfold Addr.add; split <;> simp_all
      rw [e'] at hc
      rw [hc, ex]
end
set_option maxRecDepth 100000 in
set_option maxHeartbeats 4000000 in
theorem itparse_any (s : List UInt8) (w : World) (hs : s.length ≤ 900000) (ht : TxtW w) : Calls Tryz.prog 6 #[strV s] w (PrtPost s w) := by
  have HT := hide ht
  clear ht
  have hs2 : (⟨s.toArray⟩ : ByteArray).size = s.length := by simp [ByteArray.size]
  have X := (((Own.start w).alloc #[.slice none 0 0, .slice none 0 0, .slice none 0 0] 25).alloc #[.int .i64 0, .int .i64 0] 29).alloc #[.int .i64 0] 30
  simp only [World.size_alloc] at X
  have hr := X.r3
  by_cases hbig : 262144 < s.length
  · have E : Hid (prF s = (T0, 0, 4)) := hide (by unfold prF; rw [if_pos hbig])
    have q1 : decide ((262144 : Int) < (s.length : Int)) = true := decide_eq_true (by omega)
    clear hbig
    go_enter Tryz.func6, Tryz.ntmps6
    go_wp2
    exact bodyPost_ret (v := .tuple #[.agg #[.slice none 0 0, .slice none 0 0, .slice none 0 0], .agg #[.int .i64 0, .int .i64 0], .int .i64 4]) (by simp [results, Tryz.results6, go_sem]) rfl (PrtPost.err (by have HX := X.1; have hz := HX.size; go_grown) E.out)
  have q1 : decide ((262144 : Int) < (s.length : Int)) = false := decide_eq_false (by omega)
  have EF : Hid (prF s = prTL (lns s) []) := hide (by unfold prF; rw [if_neg hbig, prT_lns])
  clear hbig
  refine (callsIn_wide (n := 4)).1 ?_
  refine callsIn_of_wp_marks Tryz.func6 rfl trivial ?_ rfl
  simp only [Tryz.ntmps6, List.size_toArray, List.length_cons, List.length_nil, Nat.reduceAdd, Nat.reduceSub, Array.replicate_succ, Array.replicate_zero, List.push_toArray, List.append_toArray, List.nil_append, List.cons_append]
  gi_wp2_with fail
  refine ⟨trivial, (callsIn_wide.2 (lines_any s _)).mono ?_⟩
  rintro e w1 ⟨rfl, rfl⟩
  have hb5 : w.heap.size + 1 + 1 + 1 + 1 + 1 = w.heap.size + 5 := by omega
  replace X := ((X.alloc #[.slice none 0 0, .slice none 0 0, .slice none 0 0] 25).alloc #[.int .i64 1, .int .i64 1] 29).alloc #[strV s] 9
  simp only [World.size_alloc] at X
  clear hr
  gi_wp2
  generalize hW : (((((w.alloc (.cells #[.slice none 0 0, .slice none 0 0, .slice none 0 0] 25)).alloc (.cells #[.int .i64 0, .int .i64 0] 29)).alloc (.cells #[.int .i64 0] 30)).alloc (.cells #[.slice none 0 0, .slice none 0 0, .slice none 0 0] 25)).alloc (.cells #[.int .i64 1, .int .i64 1] 29)).alloc (.cells #[strV s] 9) = W at *
  have hWs : W.heap.size = w.heap.size + 6 := by rw [← hW]; simp
  clear hW
  have BX : Blk W (w.heap.size + 1 + 1 + 1 + 1 + 1) 9 #[strV s] := X.2 (_, _, _) (List.mem_cons_self ..)
  have G0 : Pg w W W.heap.size (RB w.heap.size (.slice none 0 0) (.slice none 0 0) (.slice none 0 0) 1 zT zP 0) (.slice none 0 0) (.slice none 0 0) (.slice none 0 0) none [] [] [] := by
    refine ⟨X.tail, ⟨Nat.le_refl _, X.1.size⟩, fun x hx => ?_, .inl ⟨rfl, rfl⟩, World.ownsRow_nil _ _ _ _, World.ownsRow_nil _ _ _ _, rfl, fun i hi => by simp at hi⟩
    simp only [RB, List.mem_cons, List.not_mem_nil, or_false] at hx
    rcases hx with rfl | rfl | rfl | rfl | rfl
    all_goals (refine ⟨?_, ?_, ?_⟩ <;> dsimp only <;> first | omega | decide)
  have GH := hide G0
  clear X G0
  have LN := hide (fun x hx => lns_len (s := s) x hx)
  have LL := lns_length s
  refine' rangeFunc_box rfl (by decide) (gf := 34) (lb := #[.pointer (some ⟨w.heap.size + 1 + 1 + 1 + 1 + 1, 0, none⟩)]) rfl trivial (enters_of Tryz.func34 (by kernel_rfl) rfl)
    (encs := fun x : List UInt8 => #[strV x]) (Bs := w.heap.size + 1 + 1 + 1 + 1 + 1) (L := lns s) (lines_gives 3 (by decide) _ s (by omega) W BX) BX.lt (fun _ => rfl)
    (fun pre W' => pre <+: lns s ∧ ∃ (acc : List (List Int)) (D P V : Value) (VL : List Value), acc.length = pre.length ∧ (∀ l ∈ acc, l ≠ [] ∧ ∀ n ∈ l, numR n) ∧ (∀ l ∈ acc, l.length ≤ 900001) ∧ prTL (lns s) [] = prTL ((lns s).drop pre.length) acc ∧
      Pg w W' W.heap.size (RB w.heap.size D P V ((pre.length : Int) + 1) zT zP 0) D P V acc.head? (acc.tail.map (·.getD 0 0)) VL acc.tail)
    (fun c _ W' => c = .ret ∧ ∃ (k : Nat) (D P V D' P' V' : Value) (d0 : Option (List Int)) (ps : List Int) (VL : List Value) (rs : List (List Int)), prTL (lns s) [] = (T0, (k : Int) + 1, 7) ∧
      Pg w W' W.heap.size (RB w.heap.size D P V ((k : Int) + 1) zT #[.int .i64 ((k : Int) + 1), .int .i64 1] 7) D' P' V' d0 ps VL rs)
    (fun _ A B row hs hg hr => by obtain ⟨h1, acc, D, P, V, VL, h2, h3, h4, h5, h6⟩ := hs; exact ⟨h1, acc, D, P, V, VL, h2, h3, h4, h5, h6.turn hg hr⟩)
    (fun _ _ A B row hs hg hr => by obtain ⟨h1, k, D, P, V, D', P', V', d0, ps, VL, rs, h2, h6⟩ := hs; exact ⟨h1, k, D, P, V, D', P', V', d0, ps, VL, rs, h2, h6.turn hg hr⟩)
    (fun _ A B hs hg => by
      obtain ⟨h1, acc, D, P, V, VL, h2, h3, h4, h5, h6⟩ := hs
      exact ⟨h1, acc, D, P, V, VL, h2, h3, h4, h5, h6.box hg (by omega) (by omega) (fun x hx => by
        simp only [RB, List.mem_cons, List.not_mem_nil, or_false] at hx
        rcases hx with rfl | rfl | rfl | rfl | rfl
        all_goals (show (_ : Nat) ≠ _; omega))⟩)
    (fun _ _ A B hs hg => by
      obtain ⟨h1, k, D, P, V, D', P', V', d0, ps, VL, rs, h2, h6⟩ := hs
      exact ⟨h1, k, D, P, V, D', P', V', d0, ps, VL, rs, h2, h6.box hg (by omega) (by omega) (fun x hx => by
        simp only [RB, List.mem_cons, List.not_mem_nil, or_false] at hx
        rcases hx with rfl | rfl | rfl | rfl | rfl
        all_goals (show (_ : Nat) ≠ _; omega))⟩)
    ⟨⟨lns s, rfl⟩, [], .slice none 0 0, .slice none 0 0, .slice none 0 0, [], rfl, fun l hl => by simp at hl, fun l hl => by simp at hl, rfl, GH.out⟩
    _ ?assign ?body ?done ?stop
  case assign =>
    intro l x W K hK
    gi_wp2
    exact hK
  case body =>
    rintro l' pre x W' hpre ⟨_, acc, D, P, V, VL, ha, hn, hl, hp, Y⟩
    have hxm : x ∈ lns s := hpre.subset (by simp)
    have lx := LN.out x hxm
    have lb := body_len x
    have hdr : (lns s).drop pre.length = x :: (lns s).drop (pre.length + 1) := by
      obtain ⟨t, ht⟩ := hpre
      rw [← ht]
      simp
    have hlen : pre.length + 1 ≤ s.length + 1 := by
      have := hpre.length_le
      simp at this
      omega
    rw [hdr, prTL, ha] at hp
    have NO := hide (fun (h : nsOk (wdA pre.length) x = false) => (show prTL (lns s) [] = (T0, (pre.length : Int) + 1, 7) from hp.trans (if_neg (by
      rintro ⟨h1, h2⟩
      have : nsOk (wdA pre.length) x = (endB x && nsB (wdA pre.length) (bodyL x)) := rfl
      rw [h, h1, h2] at this
      cases this))))
    have YS := hide (fun (h : nsOk (wdA pre.length) x = true) => (show endB x = true ∧ nsB (wdA pre.length) (bodyL x) = true by
      have e : nsOk (wdA pre.length) x = (endB x && nsB (wdA pre.length) (bodyL x)) := rfl
      rw [e, Bool.and_eq_true] at h
      exact h))
    have YP := hide (fun (h : nsOk (wdA pre.length) x = true) => (show prTL (lns s) [] = prTL ((lns s).drop (pre.length + 1)) (acc ++ [nsL (bodyL x)]) from hp.trans (if_pos (YS.out h))))
    have NV : Hid (nsOk (wdA pre.length) x = true → nsV (wdA pre.length) x = nsL (bodyL x)) := hide (fun h => by unfold nsV; rw [if_pos h])
    have NB := hide (fun (h : nsOk (wdA pre.length) x = true) => ln_back (YS.out h).2)
    have NLn : Hid ((nsL (bodyL x)).length ≤ 900001) := hide (by
      have := pts_length 32 (bodyL x)
      unfold nsL
      rw [List.length_map, List.length_tail]
      omega)
    have NU := hide (fun W hW => numbers_any x (wdA pre.length) W (by omega) (by have := (wdA_no pre.length).2.2; omega) hW)
    have PRE := hide hpre
    have YH := hide Y
    have AL := hide (And.intro ha (And.intro hn hl))
    have i1 := IntWalk.i64_in ((pre.length : Int) + 1) (by omega)
    have i2 := IntWalk.i64_in ((pre.length : Int) + 1 + 1) (by omega)
    have bw : w.heap.size + 1 + 1 + 1 + 1 + 1 < W'.heap.size := by have := Y.b2.1; omega
    have KB := hide (fun W1 (hb : Below W'.heap.size W' W1) => Kp.below hb bw)
    clear hp hdr hxm hpre ha hn hl Y lb lx YS hs2
    have wd0 : Hid (pre.length = 0 → strV (wdA pre.length) = .string ⟨#[100, 117, 114, 97, 116, 105, 111, 110, 115]⟩) := hide (fun h => by rw [h]; rfl)
    have wd1 : Hid (¬ pre.length = 0 → strV (wdA pre.length) = .string ⟨#[112, 101, 114, 105, 111, 100]⟩) := hide (fun h => by
      obtain ⟨k, hk⟩ : ∃ k, pre.length = k + 1 := ⟨pre.length - 1, by omega⟩
      rw [hk, wdA_s])
    have PL : Hid (pre.length = 0 → pre = []) := hide List.eq_nil_of_length_eq_zero
    unfold NsPost at NU
    generalize nsOk (wdA pre.length) x = ok at *
    generalize nsV (wdA pre.length) x = nv at *
    generalize nsL (bodyL x) = l at *
    have HPL : Hid ((pre ++ [x]).length = pre.length + 1) := hide (by simp)
    generalize pre.length = n at *
    have hr := YH.out.own.r5
    by_cases h0 : n = 0
    · rw [wd0.out h0] at NU
      obtain rfl := h0
      have Y1 : Hid (Pg w W' W.heap.size (RB w.heap.size D P V 1 zT zP 0) D P V acc.head? (acc.tail.map (·.getD 0 0)) VL acc.tail) := hide YH.out
      replace YH := Y1
      clear Y1 hr
      have hr := YH.out.own.r5
      cases ok with
      | false =>
        have E := hide (NO.out rfl)
        clear NO YP NV NB wd0 wd1
        gi_wp2_with fail
        refine ⟨trivial, (CallsIn.inRound l' (callsIn_wide.2 (NU.out _ (HT.out.below YH.out.own.1)))).mono ?_⟩
        rintro e w3 ⟨hb, A, c, rfl, -⟩
        have Y3 := hide (YH.out.to hb)
        have K3 := hide (KB.out _ hb)
        clear hr hb NU KB YH
        have hr := Y3.out.own.r5
        gi_wp2
        gi_region
        all_goals
          gi_wp2
          exact ⟨((K3.out.trans (kp_six _ (by omega) (by omega) (by omega) _ _ _ _ _ _)).o.trans (KeepsOthers.drew _)).from _, rfl, 0, D, P, V, D, P, V, _, _, VL, _, E.out, (Y3.out.six (Nat.le_refl _) (.slice none 0 0) (.slice none 0 0) (.slice none 0 0) (.int .i64 1) (.int .i64 1) 7).drew⟩
      | true =>
        have E := hide (YP.out rfl)
        have NV' := (NV.out rfl).symm
        subst NV'
        obtain ⟨-, l0, lN⟩ := NB.out rfl
        have LF := hide (And.intro l0 lN)
        have A0 : Hid (acc = []) := hide (List.eq_nil_of_length_eq_zero AL.out.1)
        clear NO YP NB NV wd0 wd1 l0 lN
        gi_wp2_with fail
        refine ⟨trivial, (CallsIn.inRound l' (callsIn_wide.2 (NU.out _ (HT.out.below YH.out.own.1)))).mono ?_⟩
        rintro e w3 ⟨hb, A, c, rfl, hrow⟩
        obtain ⟨g, rfl, hc, hG⟩ := LineG.new hrow (List.length_pos_iff.2 LF.out.1) YH.out.b2.1 YH.out.p
        have Y3 := hide (YH.out.to hb)
        have K3 := hide (KB.out _ hb)
        have LA : Hid (LineAt w3 W.heap.size P 0 (.slice (some ⟨g, 0, none⟩) l.length c) l) := hide (hG.slice (off := 0) (fun _ => rfl) hc)
        clear hr hb NU KB YH hrow hG hc
        have hr := Y3.out.own.r5
        gi_wp2
        have Y4 := (((Y3.out.first LA.out).field (Nat.le_refl _) 0 (.slice (some ⟨g, 0, none⟩) l.length c) (.slice (some ⟨g, 0, none⟩) l.length c) P V rfl).line (Nat.le_refl _) 2)
        have K4 := (K3.out.trans (Kp.set w3 (w.heap.size + 1 + 1 + 1) 0 (.slice (some ⟨g, 0, none⟩) l.length c) (by omega))).trans (Kp.set _ (w.heap.size + 1 + 1 + 1 + 1) 0 (.int .i64 2) (by omega))
        have hacc := A0.out
        subst hacc
        refine ⟨K4.o.from _, K4.k, PRE.out, [l], _, P, V, VL, by rw [HPL.out]; rfl, fun y hy => ?_, fun y hy => ?_, by rw [HPL.out]; exact E.out, by rw [HPL.out]; exact Y4⟩
        · rw [List.mem_singleton.1 hy]; exact LF.out
        · rw [List.mem_singleton.1 hy]; exact NLn.out
    · have q : ((n : Int) + 1 == 1) = false := by simp; omega
      rw [wd1.out h0] at NU
      cases ok with
      | false =>
        have E := hide (NO.out rfl)
        clear NO YP NV NB wd0 wd1
        gi_wp2_with fail
        refine ⟨trivial, (CallsIn.inRound l' (callsIn_wide.2 (NU.out _ (HT.out.below YH.out.own.1)))).mono ?_⟩
        rintro e w3 ⟨hb, A, c, rfl, -⟩
        have Y3 := hide (YH.out.to hb)
        have K3 := hide (KB.out _ hb)
        clear hr hb NU KB YH
        have hr := Y3.out.own.r5
        gi_wp2
        gi_region
        all_goals
          gi_wp2
          exact ⟨((K3.out.trans (kp_six _ (by omega) (by omega) (by omega) _ _ _ _ _ _)).o.trans (KeepsOthers.drew _)).from _, rfl, n, D, P, V, D, P, V, _, _, VL, _, E.out, (Y3.out.six (Nat.le_refl _) (.slice none 0 0) (.slice none 0 0) (.slice none 0 0) (.int .i64 ((n : Int) + 1)) (.int .i64 1) 7).drew⟩
      | true =>
        have E := hide (YP.out rfl)
        have NV' := (NV.out rfl).symm
        subst NV'
        obtain ⟨-, l0, lN⟩ := NB.out rfl
        have LF := hide (And.intro l0 lN)
        obtain ⟨d, r, rfl⟩ : ∃ d r, acc = d :: r := by
          have := AL.out.1
          cases acc with
          | nil => simp at this; omega
          | cons d r => exact ⟨d, r, rfl⟩
        have FA : Hid ((∀ y ∈ (d :: r) ++ [l], y ≠ [] ∧ ∀ m ∈ y, numR m) ∧ ∀ y ∈ (d :: r) ++ [l], y.length ≤ 900001) := hide ⟨fun y hy => by
          rcases List.mem_append.1 hy with hy | hy
          · exact AL.out.2.1 y hy
          · rw [List.mem_singleton.1 hy]; exact LF.out, fun y hy => by
          rcases List.mem_append.1 hy with hy | hy
          · exact AL.out.2.2 y hy
          · rw [List.mem_singleton.1 hy]; exact NLn.out⟩
        have rl : r.length ≤ 900001 := by have := AL.out.1; simp at this; omega
        obtain ⟨i0, hi0, hz0, hz1, hz2⟩ := info_parts ns_info
        obtain ⟨j0, hj0, hy0, hy1, hy2⟩ := info_parts ints_infoP
        have ll := List.length_pos_iff.2 l0
        have l1 : (1 : Int) ≤ (l.length : Int) := by omega
        have hle := NLn.out
        clear NO YP NB NV wd0 wd1 l0 lN
        gi_wp2_with fail
        refine ⟨trivial, (CallsIn.inRound l' (callsIn_wide.2 (NU.out _ (HT.out.below YH.out.own.1)))).mono ?_⟩
        rintro e w3 ⟨hb, A, c, rfl, hrow⟩
        obtain ⟨g, rfl, hc, hG⟩ := LineG.new hrow ll YH.out.b2.1 YH.out.p
        have Z0 : Hid (Pg w w3.drew W.heap.size (RB w.heap.size D P V ((n : Int) + 1) zT zP 0) D P V (some d) (r.map (·.getD 0 0)) VL r) := hide (YH.out.to hb).drew
        have K0 : Hid (Kp (w.heap.size + 1 + 1 + 1 + 1 + 1) W' w3.drew) := hide (KB.out _ hb.drew)
        have G0 : Hid (LineG w3.drew W.heap.size P g l) := hide (hG.to ((Below.refl w3.heap.size w3).drew))
        obtain ⟨x0, hx0⟩ : ∃ x0, x0 = l.getD 0 0 := ⟨_, rfl⟩
        have HX0 := hide hx0
        clear hx0
        have HSS := hide (fun W1 P1 (R : Own w W1 (RB w.heap.size D P V ((n : Int) + 1) zT zP 0)) (G : LineG W1 W.heap.size P1 g l) => (show W1.cell? ⟨w.heap.size + 1 + 1 + 1, 1, none⟩ = some P ∧ W1.cell? ⟨w.heap.size + 1 + 1 + 1, 2, none⟩ = some V ∧ W1.cell? ⟨g, 0, none⟩ = some (.int .i64 x0) from
          ⟨R.r5.2.1.1 1, R.r5.2.1.1 2, by rw [G.cell 0 ll, HX0.out]; simp [List.getD_eq_getElem?_getD, ll]⟩))
        have hs0 := HSS.out _ _ Z0.out.own G0.out
        have hr := (YH.out.to hb).own.r5
        clear hb NU KB YH hrow hG
        gi_wp2
        refine wpIn_region_T (S := fun W1 => W1.cell? ⟨w.heap.size + 1 + 1 + 1, 1, none⟩ = some P ∧ W1.cell? ⟨w.heap.size + 1 + 1 + 1, 2, none⟩ = some V ∧ W1.cell? ⟨g, 0, none⟩ = some (.int .i64 x0)) 14 (by kernel_rfl) (by kernel_rfl) (fun ⟨_, _, h⟩ => h) ?_
        refine HdT.take (i := 0) (v := ?_) (d := some 38) (by kernel_rfl) rfl rfl (by decide) (by kernel_rfl) (by kernel_rfl) (fun _ _ _ h => h) hs0 (Or.inl ⟨by rfl, ?_⟩) ?_
        rotate_left
        · (intro W1 hS1; obtain ⟨hS1, hS2, hS3⟩ := hS1; go_simp; first | done | (with_reducible rfl))
        simp only [Act.put, List.setIfInBounds_toArray, List.set_cons_zero, List.set_cons_succ]
        refine HdT.take (i := 1) (v := ?_) (d := some 39) (by kernel_rfl) rfl rfl (by decide) (by kernel_rfl) (by kernel_rfl) (fun _ _ _ h => h) hs0 (Or.inl ⟨by rfl, ?_⟩) ?_
        rotate_left
        · (intro W1 hS1; obtain ⟨hS1, hS2, hS3⟩ := hS1; go_simp; first | done | (with_reducible rfl))
        simp only [Act.put, List.setIfInBounds_toArray, List.set_cons_zero, List.set_cons_succ]
        refine HdT.take (i := 2) (v := ?_) (d := some 40) (by kernel_rfl) rfl rfl (by decide) (by kernel_rfl) (by kernel_rfl) (fun _ _ _ h => h) hs0 (Or.inl ⟨by rfl, ?_⟩) ?_
        rotate_left
        · (intro W1 hS1; obtain ⟨hS1, hS2, hS3⟩ := hS1; go_simp; first | done | (with_reducible rfl))
        simp only [Act.put, List.setIfInBounds_toArray, List.set_cons_zero, List.set_cons_succ]
        refine HdT.take (i := 3) (v := ?_) (d := some 41) (by kernel_rfl) rfl rfl (by decide) (by kernel_rfl) (by kernel_rfl) (fun _ _ _ h => h) hs0 (Or.inl ⟨by rfl, ?_⟩) ?_
        rotate_left
        · (intro W1 hS1; obtain ⟨hS1, hS2, hS3⟩ := hS1; go_simp; first | done | (with_reducible rfl))
        simp only [Act.put, List.setIfInBounds_toArray, List.set_cons_zero, List.set_cons_succ]
        refine HdT.take (i := 4) (v := ?_) (d := some 42) (by kernel_rfl) rfl rfl (by decide) (by kernel_rfl) (by kernel_rfl) (fun _ _ _ h => h) hs0 (Or.inl ⟨by rfl, ?_⟩) ?_
        rotate_left
        · (intro W1 hS1; obtain ⟨hS1, hS2, hS3⟩ := hS1; go_simp; first | done | (with_reducible rfl))
        simp only [Act.put, List.setIfInBounds_toArray, List.set_cons_zero, List.set_cons_succ]
        refine HdT.take (i := 7) (v := ?_) (d := some 45) (by kernel_rfl) rfl rfl (by decide) (by kernel_rfl) (by kernel_rfl) (fun _ _ _ h => h) hs0 (Or.inl ⟨by rfl, ?_⟩) ?_
        rotate_left
        · (intro W1 hS1; obtain ⟨hS1, hS2, hS3⟩ := hS1; go_simp; first | done | (with_reducible rfl))
        simp only [Act.put, List.setIfInBounds_toArray, List.set_cons_zero, List.set_cons_succ]
        refine HdT.take (i := 8) (v := ?_) (d := some 46) (by kernel_rfl) rfl rfl (by decide) (by kernel_rfl) (by kernel_rfl) (fun _ _ _ h => h) hs0 (Or.inl ⟨by rfl, ?_⟩) ?_
        rotate_left
        · (intro W1 hS1; obtain ⟨hS1, hS2, hS3⟩ := hS1; go_simp; first | done | (with_reducible rfl))
        simp only [Act.put, List.setIfInBounds_toArray, List.set_cons_zero, List.set_cons_succ]
        refine HdT.take (i := 9) (v := ?_) (d := some 47) (by kernel_rfl) rfl rfl (by decide) (by kernel_rfl) (by kernel_rfl) (fun _ _ _ h => h) hs0 (Or.inl ⟨by rfl, ?_⟩) ?_
        rotate_left
        · (intro W1 hS1; obtain ⟨hS1, hS2, hS3⟩ := hS1; go_simp; first | done | (with_reducible rfl))
        simp only [Act.put, List.setIfInBounds_toArray, List.set_cons_zero, List.set_cons_succ]
        refine HdT.take (i := 10) (v := ?_) (d := some 48) (by kernel_rfl) rfl rfl (by decide) (by kernel_rfl) (by kernel_rfl) (fun _ _ _ h => h) hs0 (Or.inl ⟨by rfl, ?_⟩) ?_
        rotate_left
        · (intro W1 hS1; obtain ⟨hS1, hS2, hS3⟩ := hS1; go_simp; first | done | (with_reducible rfl))
        simp only [Act.put, List.setIfInBounds_toArray, List.set_cons_zero, List.set_cons_succ]
        have hA : 1 < l.length → (if c = 1 then some (⟨g, 0, none⟩ : Addr) else some ⟨g, 1, none⟩) = some ⟨g, 1, none⟩ := fun h => if_neg (by omega)
        generalize (if c = 1 then some (⟨g, 0, none⟩ : Addr) else some ⟨g, 1, none⟩) = Ay at *
        obtain ⟨Wa0, hW1⟩ : ∃ z, z = w3.drew := ⟨_, rfl⟩
        rw [← hW1] at Z0 K0 G0 hs0 ⊢
        clear hW1 hr
        have fP1 : (r.map (·.getD 0 0)).length + 1 ≤ maxLen := by rw [List.length_map]; unfold maxLen; omega
        have fP2 : ((r.map (·.getD 0 0)).length + 1) * 8 ≤ 140737488355328 := by rw [List.length_map]; omega
        have fV := Z0.out.r.1
        have fV1 : VL.length + 1 ≤ maxLen := by unfold maxLen; omega
        have fV2 : (VL.length + 1) * 24 ≤ 140737488355328 := by omega
        clear fV
        refine HdT.two (i := 5) (j := 11) (by kernel_rfl) (by decide) (by decide) ?_ ?_
        · refine wpOp_step rfl (fun KK hKK => ?_)
          go_simp
          have Z1 := hide (Z0.out.alloc (.cells #[.int .i64 x0] 3))
          have K1 := hide (K0.out.trans (Kp.below ((Below.refl Wa0.heap.size Wa0).alloc (Nat.le_refl _) (.cells #[.int .i64 x0] 3)) (by have := Z0.out.b2.1; omega)))
          have G1 := hide (G0.out.to ((Below.refl Wa0.heap.size Wa0).alloc (Nat.le_refl _) (.cells #[.int .i64 x0] 3)))
          have B11 := hide (Blk.new Wa0 3 #[.int .i64 x0])
          have hs1 := HSS.out _ _ Z1.out.own G1.out
          refine hKK _ _ ⟨hs1, ?_⟩
          clear hKK KK Z0 K0 G0 hs0
          generalize Wa0.heap.size = gb1 at *
          generalize Wa0.alloc (.cells #[.int .i64 x0] 3) = Wa1 at *
          refine HdT.two (i := 6) (j := 11) (by kernel_rfl) (by decide) (by decide) ?_ ?_
          · refine wpOp_step rfl (fun KK hKK => ?_)
            refine step_append_any (w := Wa1) (by rfl) _ _ _ (by rfl) W.heap.size 3 i0 (.int .i64 0) 1 8 Tryz.underlying22 hi0 hz0 hz1 hz2 rfl (by decide) P (r.map (·.getD 0 0)).length ((r.map (·.getD 0 0)).map (Value.int .i64)) (by rfl) Z1.out.p Wa1.heap.size _ 1 1 [.int .i64 x0] (by rfl) (reads_blk B11.out) (by simp [Value.oneCell']) fP1 fP2 Z1.out.b2.1 ?_
            intro P4 Wa2 hown hg ho
            have hown1 := hown
            rw [List.length_map] at hown1
            obtain ⟨A4, c4, hP4, -⟩ := row_anyG hown1
            subst hP4
            clear hown1
            have Z2 := hide (Z1.out.appP hown hg ho)
            have K2 := hide (K1.out.trans (Kp.row Z1.out.p hg (by omega) (by have := Z1.out.b2.1; omega)))
            have G2 := hide (G1.out.appP hg ho)
            have hs2 := HSS.out _ _ Z2.out.own G2.out
            refine hKK _ _ ⟨hs2, ?_⟩
            clear hKK KK hown hg ho Z1 K1 G1 hs1 B11
            refine HdT.take (i := 13) (v := ?_) (d := some 51) (by kernel_rfl) rfl rfl (by decide) (by kernel_rfl) (by kernel_rfl) (fun _ _ _ h => h) hs2 (Or.inl ⟨by rfl, ?_⟩) ?_
            rotate_left
            · (intro W1 hS1; obtain ⟨hS1, hS2, hS3⟩ := hS1; go_simp; first | done | (with_reducible rfl))
            simp only [Act.put, List.setIfInBounds_toArray]
            refine HdT.one (i := 11) (by kernel_rfl) (by decide) ?_
            refine wpOp_step rfl (fun KK hKK => ?_)
            go_simp
            have Z3 := hide (Z2.out.alloc (.cells #[.slice Ay (l.length - 1) (c - 1)] 22))
            have K3 := hide (K2.out.trans (Kp.below ((Below.refl Wa2.heap.size Wa2).alloc (Nat.le_refl _) (.cells #[.slice Ay (l.length - 1) (c - 1)] 22)) (by have := Z2.out.b2.1; omega)))
            have G3 := hide (G2.out.to ((Below.refl Wa2.heap.size Wa2).alloc (Nat.le_refl _) (.cells #[.slice Ay (l.length - 1) (c - 1)] 22)))
            have B23 := hide (Blk.new Wa2 22 #[.slice Ay (l.length - 1) (c - 1)])
            have hs3 := HSS.out _ _ Z3.out.own G3.out
            refine hKK _ _ ⟨hs3, ?_⟩
            clear hKK KK Z2 K2 G2 hs2
            generalize Wa2.heap.size = gb2 at *
            generalize Wa2.alloc (.cells #[.slice Ay (l.length - 1) (c - 1)] 22) = Wa3 at *
            refine HdT.one (i := 12) (by kernel_rfl) (by decide) ?_
            refine wpOp_step rfl (fun KK hKK => ?_)
            refine step_append_any (w := Wa3) (by rfl) _ _ _ (by rfl) W.heap.size 22 j0 (.slice none 0 0) 1 24 Tryz.underlying23 hj0 hy0 hy1 hy2 rfl (by decide) V VL.length VL (by rfl) Z3.out.v Wa3.heap.size _ 1 1 [.slice Ay (l.length - 1) (c - 1)] (by rfl) (reads_blk B23.out) (by simp [Value.oneCell']) fV1 fV2 Z3.out.b2.1 ?_
            intro V4 Wa4 hown hg ho
            obtain ⟨A5, c5, hV4, -⟩ := row_anyG hown
            subst hV4
            have Z4 := hide (Z3.out.appV (G3.out.slice (off := 1) hA (by omega)) hown hg)
            have K4 := hide (K3.out.trans (Kp.row Z3.out.v hg (by omega) (by have := Z3.out.b2.1; omega)))
            have G4 := hide (G3.out.appV Z3.out.v hg)
            have hs4 := HSS.out _ _ Z4.out.own G4.out
            refine hKK _ _ ⟨hs4, ?_⟩
            clear hKK KK hown hg ho Z3 K3 G3 hs3 B23
            have hr := Z4.out.own.r5
            refine HdT.tail ?_
            refine anyT.one (i := 14) (by kernel_rfl) (by decide) (wpOp_step rfl (fun KK hKK => ?_))
            go_simp
            refine hKK _ _ ?_
            clear hKK KK
            have Z5 := hide (Z4.out.field (Nat.le_refl _) 1 (.slice A4 (r.length + 1) c4) D (.slice A4 (r.length + 1) c4) V rfl)
            have hr1 := Z5.out.own.r5
            refine anyT.one (i := 15) (by kernel_rfl) (by decide) (wpOp_step rfl (fun KK hKK => ?_))
            go_simp
            refine hKK _ _ ?_
            clear hKK KK
            refine anyT.one (i := 16) (by kernel_rfl) (by decide) (wpOp_step rfl (fun KK hKK => ?_))
            go_simp
            refine hKK _ _ ?_
            clear hKK KK
            have Z6 := hide (Z5.out.field (Nat.le_refl _) 2 (.slice A5 (VL.length + 1) c5) D (.slice A4 (r.length + 1) c4) (.slice A5 (VL.length + 1) c5) rfl)
            clear hr hr1
            have hr := Z6.out.own.r5
            refine anyT.done (by kernel_rfl) ?_ _
            gi_wp2
            have Z7 := Z6.out.line (Nat.le_refl _) ((n : Int) + 1 + 1)
            rw [HX0.out] at Z7
            have K5 := ((K4.out.trans (Kp.set Wa4 (w.heap.size + 1 + 1 + 1) 1 (.slice A4 (r.length + 1) c4) (by omega))).trans (Kp.set _ (w.heap.size + 1 + 1 + 1) 2 (.slice A5 (VL.length + 1) c5) (by omega))).trans (Kp.set _ (w.heap.size + 1 + 1 + 1 + 1) 0 (.int .i64 ((n : Int) + 1 + 1)) (by omega))
            exact ⟨K5.o.from _, K5.k, PRE.out, (d :: r) ++ [l], D, (.slice A4 (r.length + 1) c4), (.slice A5 (VL.length + 1) c5), VL ++ [.slice Ay (l.length - 1) (c - 1)], by rw [HPL.out, List.length_append, AL.out.1]; rfl, FA.out.1, FA.out.2, by rw [HPL.out]; exact E.out, by rw [HPL.out]; show Pg w _ W.heap.size _ D _ _ (some d) ((r ++ [l]).map (·.getD 0 0)) _ (r ++ [l]); rw [List.map_append]; exact Z7⟩
          · refine wpOp_step rfl (fun KK hKK => ?_)
            go_simp
            have Z2 := hide (Z1.out.alloc (.cells #[.slice Ay (l.length - 1) (c - 1)] 22))
            have K2 := hide (K1.out.trans (Kp.below ((Below.refl Wa1.heap.size Wa1).alloc (Nat.le_refl _) (.cells #[.slice Ay (l.length - 1) (c - 1)] 22)) (by have := Z1.out.b2.1; omega)))
            have G2 := hide (G1.out.to ((Below.refl Wa1.heap.size Wa1).alloc (Nat.le_refl _) (.cells #[.slice Ay (l.length - 1) (c - 1)] 22)))
            have B22 := hide (Blk.new Wa1 22 #[.slice Ay (l.length - 1) (c - 1)])
            have B12 := hide (B11.out.alloc (.cells #[.slice Ay (l.length - 1) (c - 1)] 22))
            have hs2 := HSS.out _ _ Z2.out.own G2.out
            refine hKK _ _ ⟨hs2, ?_⟩
            clear hKK KK Z1 K1 G1 hs1 B11
            generalize Wa1.heap.size = gb2 at *
            generalize Wa1.alloc (.cells #[.slice Ay (l.length - 1) (c - 1)] 22) = Wa2 at *
            refine HdT.one (i := 6) (by kernel_rfl) (by decide) ?_
            refine wpOp_step rfl (fun KK hKK => ?_)
            refine step_append_any (w := Wa2) (by rfl) _ _ _ (by rfl) W.heap.size 3 i0 (.int .i64 0) 1 8 Tryz.underlying22 hi0 hz0 hz1 hz2 rfl (by decide) P (r.map (·.getD 0 0)).length ((r.map (·.getD 0 0)).map (Value.int .i64)) (by rfl) Z2.out.p Wa2.heap.size _ 1 1 [.int .i64 x0] (by rfl) (reads_blk B12.out) (by simp [Value.oneCell']) fP1 fP2 Z2.out.b2.1 ?_
            intro P4 Wa3 hown hg ho
            have hown1 := hown
            rw [List.length_map] at hown1
            obtain ⟨A4, c4, hP4, -⟩ := row_anyG hown1
            subst hP4
            clear hown1
            have Z3 := hide (Z2.out.appP hown hg ho)
            have K3 := hide (K2.out.trans (Kp.row Z2.out.p hg (by omega) (by have := Z2.out.b2.1; omega)))
            have G3 := hide (G2.out.appP hg ho)
            have B23 := hide (B22.out.grown hg (fun e => own_blk_ne Z2.out.p B22.out (by decide) e.symm))
            have hs3 := HSS.out _ _ Z3.out.own G3.out
            refine hKK _ _ ⟨hs3, ?_⟩
            clear hKK KK hown hg ho Z2 K2 G2 hs2 B12 B22
            refine HdT.take (i := 13) (v := ?_) (d := some 51) (by kernel_rfl) rfl rfl (by decide) (by kernel_rfl) (by kernel_rfl) (fun _ _ _ h => h) hs3 (Or.inl ⟨by rfl, ?_⟩) ?_
            rotate_left
            · (intro W1 hS1; obtain ⟨hS1, hS2, hS3⟩ := hS1; go_simp; first | done | (with_reducible rfl))
            simp only [Act.put, List.setIfInBounds_toArray]
            refine HdT.one (i := 12) (by kernel_rfl) (by decide) ?_
            refine wpOp_step rfl (fun KK hKK => ?_)
            refine step_append_any (w := Wa3) (by rfl) _ _ _ (by rfl) W.heap.size 22 j0 (.slice none 0 0) 1 24 Tryz.underlying23 hj0 hy0 hy1 hy2 rfl (by decide) V VL.length VL (by rfl) Z3.out.v Wa3.heap.size _ 1 1 [.slice Ay (l.length - 1) (c - 1)] (by rfl) (reads_blk B23.out) (by simp [Value.oneCell']) fV1 fV2 Z3.out.b2.1 ?_
            intro V4 Wa4 hown hg ho
            obtain ⟨A5, c5, hV4, -⟩ := row_anyG hown
            subst hV4
            have Z4 := hide (Z3.out.appV (G3.out.slice (off := 1) hA (by omega)) hown hg)
            have K4 := hide (K3.out.trans (Kp.row Z3.out.v hg (by omega) (by have := Z3.out.b2.1; omega)))
            have G4 := hide (G3.out.appV Z3.out.v hg)
            have hs4 := HSS.out _ _ Z4.out.own G4.out
            refine hKK _ _ ⟨hs4, ?_⟩
            clear hKK KK hown hg ho Z3 K3 G3 hs3 B23
            have hr := Z4.out.own.r5
            refine HdT.tail ?_
            refine anyT.one (i := 14) (by kernel_rfl) (by decide) (wpOp_step rfl (fun KK hKK => ?_))
            go_simp
            refine hKK _ _ ?_
            clear hKK KK
            have Z5 := hide (Z4.out.field (Nat.le_refl _) 1 (.slice A4 (r.length + 1) c4) D (.slice A4 (r.length + 1) c4) V rfl)
            have hr1 := Z5.out.own.r5
            refine anyT.one (i := 15) (by kernel_rfl) (by decide) (wpOp_step rfl (fun KK hKK => ?_))
            go_simp
            refine hKK _ _ ?_
            clear hKK KK
            refine anyT.one (i := 16) (by kernel_rfl) (by decide) (wpOp_step rfl (fun KK hKK => ?_))
            go_simp
            refine hKK _ _ ?_
            clear hKK KK
            have Z6 := hide (Z5.out.field (Nat.le_refl _) 2 (.slice A5 (VL.length + 1) c5) D (.slice A4 (r.length + 1) c4) (.slice A5 (VL.length + 1) c5) rfl)
            clear hr hr1
            have hr := Z6.out.own.r5
            refine anyT.done (by kernel_rfl) ?_ _
            gi_wp2
            have Z7 := Z6.out.line (Nat.le_refl _) ((n : Int) + 1 + 1)
            rw [HX0.out] at Z7
            have K5 := ((K4.out.trans (Kp.set Wa4 (w.heap.size + 1 + 1 + 1) 1 (.slice A4 (r.length + 1) c4) (by omega))).trans (Kp.set _ (w.heap.size + 1 + 1 + 1) 2 (.slice A5 (VL.length + 1) c5) (by omega))).trans (Kp.set _ (w.heap.size + 1 + 1 + 1 + 1) 0 (.int .i64 ((n : Int) + 1 + 1)) (by omega))
            exact ⟨K5.o.from _, K5.k, PRE.out, (d :: r) ++ [l], D, (.slice A4 (r.length + 1) c4), (.slice A5 (VL.length + 1) c5), VL ++ [.slice Ay (l.length - 1) (c - 1)], by rw [HPL.out, List.length_append, AL.out.1]; rfl, FA.out.1, FA.out.2, by rw [HPL.out]; exact E.out, by rw [HPL.out]; show Pg w _ W.heap.size _ D _ _ (some d) ((r ++ [l]).map (·.getD 0 0)) _ (r ++ [l]); rw [List.map_append]; exact Z7⟩
        · refine wpOp_step rfl (fun KK hKK => ?_)
          go_simp
          have Z1 := hide (Z0.out.alloc (.cells #[.slice Ay (l.length - 1) (c - 1)] 22))
          have K1 := hide (K0.out.trans (Kp.below ((Below.refl Wa0.heap.size Wa0).alloc (Nat.le_refl _) (.cells #[.slice Ay (l.length - 1) (c - 1)] 22)) (by have := Z0.out.b2.1; omega)))
          have G1 := hide (G0.out.to ((Below.refl Wa0.heap.size Wa0).alloc (Nat.le_refl _) (.cells #[.slice Ay (l.length - 1) (c - 1)] 22)))
          have B21 := hide (Blk.new Wa0 22 #[.slice Ay (l.length - 1) (c - 1)])
          have hs1 := HSS.out _ _ Z1.out.own G1.out
          refine hKK _ _ ⟨hs1, ?_⟩
          clear hKK KK Z0 K0 G0 hs0
          generalize Wa0.heap.size = gb2 at *
          generalize Wa0.alloc (.cells #[.slice Ay (l.length - 1) (c - 1)] 22) = Wa1 at *
          refine HdT.one (i := 5) (by kernel_rfl) (by decide) ?_
          refine wpOp_step rfl (fun KK hKK => ?_)
          go_simp
          have Z2 := hide (Z1.out.alloc (.cells #[.int .i64 x0] 3))
          have K2 := hide (K1.out.trans (Kp.below ((Below.refl Wa1.heap.size Wa1).alloc (Nat.le_refl _) (.cells #[.int .i64 x0] 3)) (by have := Z1.out.b2.1; omega)))
          have G2 := hide (G1.out.to ((Below.refl Wa1.heap.size Wa1).alloc (Nat.le_refl _) (.cells #[.int .i64 x0] 3)))
          have B12 := hide (Blk.new Wa1 3 #[.int .i64 x0])
          have B22 := hide (B21.out.alloc (.cells #[.int .i64 x0] 3))
          have hs2 := HSS.out _ _ Z2.out.own G2.out
          refine hKK _ _ ⟨hs2, ?_⟩
          clear hKK KK Z1 K1 G1 hs1 B21
          generalize Wa1.heap.size = gb1 at *
          generalize Wa1.alloc (.cells #[.int .i64 x0] 3) = Wa2 at *
          refine HdT.one (i := 6) (by kernel_rfl) (by decide) ?_
          refine wpOp_step rfl (fun KK hKK => ?_)
          refine step_append_any (w := Wa2) (by rfl) _ _ _ (by rfl) W.heap.size 3 i0 (.int .i64 0) 1 8 Tryz.underlying22 hi0 hz0 hz1 hz2 rfl (by decide) P (r.map (·.getD 0 0)).length ((r.map (·.getD 0 0)).map (Value.int .i64)) (by rfl) Z2.out.p Wa2.heap.size _ 1 1 [.int .i64 x0] (by rfl) (reads_blk B12.out) (by simp [Value.oneCell']) fP1 fP2 Z2.out.b2.1 ?_
          intro P4 Wa3 hown hg ho
          have hown1 := hown
          rw [List.length_map] at hown1
          obtain ⟨A4, c4, hP4, -⟩ := row_anyG hown1
          subst hP4
          clear hown1
          have Z3 := hide (Z2.out.appP hown hg ho)
          have K3 := hide (K2.out.trans (Kp.row Z2.out.p hg (by omega) (by have := Z2.out.b2.1; omega)))
          have G3 := hide (G2.out.appP hg ho)
          have B23 := hide (B22.out.grown hg (fun e => own_blk_ne Z2.out.p B22.out (by decide) e.symm))
          have hs3 := HSS.out _ _ Z3.out.own G3.out
          refine hKK _ _ ⟨hs3, ?_⟩
          clear hKK KK hown hg ho Z2 K2 G2 hs2 B12 B22
          refine HdT.take (i := 13) (v := ?_) (d := some 51) (by kernel_rfl) rfl rfl (by decide) (by kernel_rfl) (by kernel_rfl) (fun _ _ _ h => h) hs3 (Or.inl ⟨by rfl, ?_⟩) ?_
          rotate_left
          · (intro W1 hS1; obtain ⟨hS1, hS2, hS3⟩ := hS1; go_simp; first | done | (with_reducible rfl))
          simp only [Act.put, List.setIfInBounds_toArray]
          refine HdT.one (i := 12) (by kernel_rfl) (by decide) ?_
          refine wpOp_step rfl (fun KK hKK => ?_)
          refine step_append_any (w := Wa3) (by rfl) _ _ _ (by rfl) W.heap.size 22 j0 (.slice none 0 0) 1 24 Tryz.underlying23 hj0 hy0 hy1 hy2 rfl (by decide) V VL.length VL (by rfl) Z3.out.v Wa3.heap.size _ 1 1 [.slice Ay (l.length - 1) (c - 1)] (by rfl) (reads_blk B23.out) (by simp [Value.oneCell']) fV1 fV2 Z3.out.b2.1 ?_
          intro V4 Wa4 hown hg ho
          obtain ⟨A5, c5, hV4, -⟩ := row_anyG hown
          subst hV4
          have Z4 := hide (Z3.out.appV (G3.out.slice (off := 1) hA (by omega)) hown hg)
          have K4 := hide (K3.out.trans (Kp.row Z3.out.v hg (by omega) (by have := Z3.out.b2.1; omega)))
          have G4 := hide (G3.out.appV Z3.out.v hg)
          have hs4 := HSS.out _ _ Z4.out.own G4.out
          refine hKK _ _ ⟨hs4, ?_⟩
          clear hKK KK hown hg ho Z3 K3 G3 hs3 B23
          have hr := Z4.out.own.r5
          refine HdT.tail ?_
          refine anyT.one (i := 14) (by kernel_rfl) (by decide) (wpOp_step rfl (fun KK hKK => ?_))
          go_simp
          refine hKK _ _ ?_
          clear hKK KK
          have Z5 := hide (Z4.out.field (Nat.le_refl _) 1 (.slice A4 (r.length + 1) c4) D (.slice A4 (r.length + 1) c4) V rfl)
          have hr1 := Z5.out.own.r5
          refine anyT.one (i := 15) (by kernel_rfl) (by decide) (wpOp_step rfl (fun KK hKK => ?_))
          go_simp
          refine hKK _ _ ?_
          clear hKK KK
          refine anyT.one (i := 16) (by kernel_rfl) (by decide) (wpOp_step rfl (fun KK hKK => ?_))
          go_simp
          refine hKK _ _ ?_
          clear hKK KK
          have Z6 := hide (Z5.out.field (Nat.le_refl _) 2 (.slice A5 (VL.length + 1) c5) D (.slice A4 (r.length + 1) c4) (.slice A5 (VL.length + 1) c5) rfl)
          clear hr hr1
          have hr := Z6.out.own.r5
          refine anyT.done (by kernel_rfl) ?_ _
          gi_wp2
          have Z7 := Z6.out.line (Nat.le_refl _) ((n : Int) + 1 + 1)
          rw [HX0.out] at Z7
          have K5 := ((K4.out.trans (Kp.set Wa4 (w.heap.size + 1 + 1 + 1) 1 (.slice A4 (r.length + 1) c4) (by omega))).trans (Kp.set _ (w.heap.size + 1 + 1 + 1) 2 (.slice A5 (VL.length + 1) c5) (by omega))).trans (Kp.set _ (w.heap.size + 1 + 1 + 1 + 1) 0 (.int .i64 ((n : Int) + 1 + 1)) (by omega))
          exact ⟨K5.o.from _, K5.k, PRE.out, (d :: r) ++ [l], D, (.slice A4 (r.length + 1) c4), (.slice A5 (VL.length + 1) c5), VL ++ [.slice Ay (l.length - 1) (c - 1)], by rw [HPL.out, List.length_append, AL.out.1]; rfl, FA.out.1, FA.out.2, by rw [HPL.out]; exact E.out, by rw [HPL.out]; show Pg w _ W.heap.size _ D _ _ (some d) ((r ++ [l]).map (·.getD 0 0)) _ (r ++ [l]); rw [List.map_append]; exact Z7⟩
  case done =>
    rintro dk W' hD ⟨_, acc, D, P, V, VL, ha, hn, hl, hp, Y⟩ hK
    rw [List.drop_length, prTL] at hp
    have la : acc.length ≤ 900001 := by omega
    have KH := hide hK
    have bk : w.heap.size + 6 ≤ dk := by omega
    rw [← ha] at Y
    clear ha
    by_cases h0 : acc = []
    · rw [if_pos h0] at hp
      have E : Hid (prF s = (T0, ((0 : Nat) : Int) + 1, 7)) := hide (EF.out.trans hp)
      subst h0
      have YH : Hid (Pg w W' W.heap.size (RB w.heap.size D P V 1 zT zP 0) D P V none [] VL []) := hide Y
      have hr := YH.out.own.r5
      clear hp hn hl Y hK EF
      gi_wp2
      gi_region
      all_goals
        gi_wp2
        have Y6 := (YH.out.six (Nat.le_refl _) (.slice none 0 0) (.slice none 0 0) (.slice none 0 0) (.int .i64 1) (.int .i64 1) 7).drew
        have K6 := ((kp_six W' (k := dk) (b := w.heap.size) (by omega) (by omega) (by omega) (.slice none 0 0) (.slice none 0 0) (.slice none 0 0) (.int .i64 1) (.int .i64 1) (.int .i64 7)).o.trans (KeepsOthers.drew _)).same dk _ KH.out rfl
        have Y7 := hide (Y6.taken hD K6)
        clear Y6
        refine ⟨by simp, .inl ⟨_, _, rfl, run_takeDeferred K6, ?_⟩⟩
        refine ⟨.tuple #[.agg #[.slice none 0 0, .slice none 0 0, .slice none 0 0], .agg #[.int .i64 1, .int .i64 1], .int .i64 7], ?_, ?_⟩
        · have hr2 := Y7.out.own.r5
          clear hr
          simp [results, Tryz.results6, hr2, go_sem]
        · exact PrtPost.bad (n := 0) Y7.out.own.1 E.out
    · rw [if_neg h0] at hp
      obtain ⟨d, r, rfl⟩ : ∃ d r, acc = d :: r := by
        cases acc with
        | nil => exact absurd rfl h0
        | cons d r => exact ⟨d, r, rfl⟩
      clear h0
      have hd := hn d (List.mem_cons_self ..)
      have hd2 := hl d (List.mem_cons_self ..)
      have lr : r.length ≤ 900001 := by simp at la; omega
      obtain ⟨⟨A1, A2, A3, c1, c2, c3⟩, e1, e2, e3, hT⟩ := Pg.tab (rs := r) (d := d) Y hd.2 (fun y hy => hn y (List.mem_cons_of_mem _ hy)) hd2 (fun y hy => hl y (List.mem_cons_of_mem _ hy)) lr
      have TB := hide (fun W1 R (Z : Pg w W1 W.heap.size R D P V (some d) (r.map (·.getD 0 0)) VL r) => (show TabSl W1 (tbO (d :: r)) ⟨A1, A2, A3, c1, c2, c3⟩ by
        obtain ⟨⟨B1, B2, B3, k1, k2, k3⟩, f1, f2, f3, h⟩ := Pg.tab (rs := r) (d := d) Z hd.2 (fun y hy => hn y (List.mem_cons_of_mem _ hy)) hd2 (fun y hy => hl y (List.mem_cons_of_mem _ hy)) lr
        rw [e1] at f1
        rw [e2] at f2
        rw [e3] at f3
        injection f1 with f1 _ g1
        injection f2 with f2 _ g2
        injection f3 with f3 _ g3
        dsimp only at f1 f2 f3 g1 g2 g3
        subst f1 f2 f3 g1 g2 g3
        exact h))
      have PH := hide hp
      have YH : Hid (Pg w W' W.heap.size (RB w.heap.size D P V (((d :: r).length : Int) + 1) zT zP 0) D P V (some d) (r.map (·.getD 0 0)) VL r) := hide Y
      have hT := hide hT
      have V1 := hide (fun W h => tvalid_any (tbO (d :: r)) ⟨A1, A2, A3, c1, c2, c3⟩ W h)
      have tl : Hid (tL (d :: r) = if vT (tbO (d :: r)) = true then tbO (d :: r) else T0) := hide rfl
      have te : Hid (tE (d :: r) = if vT (tbO (d :: r)) = true then 0 else 1) := hide rfl
      have ll : (d :: r).length ≤ 900001 := la
      have lp : 0 < (d :: r).length := by simp
      clear hp hn hl hd hd2 Y hK lr la
      generalize (d :: r).length = n at *
      generalize tL (d :: r) = tl' at *
      generalize tE (d :: r) = te' at *
      generalize tbO (d :: r) = T at *
      subst e1 e2 e3
      have i9 := IntWalk.i64_in ((n : Int) + 1) (by omega)
      have q : ((n : Int) + 1 == 1) = false := by simp; omega
      have hr := YH.out.own.r5
      gi_wp2_with fail
      refine ⟨trivial, (callsIn_wide.2 (V1.out _ hT.out)).mono ?_⟩
      rintro e w3 ⟨rfl, hb⟩
      have Y3 := hide (YH.out.to hb)
      have K3 : Hid (w3.heap[dk]? = some (.deferred (some []))) := hide ((show KeepsOthers W' w3 from ⟨hb.size, fun k _ hk _ => (hb.block k (Array.getElem?_eq_some_iff.1 hk).1).trans hk⟩).same dk _ KH.out rfl)
      clear hr hb YH hT V1
      have hr := Y3.out.own.r5
      rcases Bool.eq_false_or_eq_true (vT T) with hv | hv
      · have E : Hid (prF s = (T, 0, 0)) := hide (by rw [EF.out, PH.out, tl.out, te.out, hv]; rfl)
        rw [hv]
        clear PH tl te EF hv
        gi_wp2
        have Y6 := Y3.out.six (Nat.le_refl _) (.slice A1 T.ds.length c1) (.slice A2 T.ps.length c2) (.slice A3 T.rows.length c3) (.int .i64 0) (.int .i64 0) 0
        have K6 := (kp_six w3 (k := dk) (b := w.heap.size) (by omega) (by omega) (by omega) (.slice A1 T.ds.length c1) (.slice A2 T.ps.length c2) (.slice A3 T.rows.length c3) (.int .i64 0) (.int .i64 0) (.int .i64 0)).o.same dk _ K3.out rfl
        have Y7 := hide (Y6.taken hD K6)
        clear Y6
        refine ⟨by simp, .inl ⟨_, _, rfl, run_takeDeferred K6, ?_⟩⟩
        refine ⟨.tuple #[.agg #[.slice A1 T.ds.length c1, .slice A2 T.ps.length c2, .slice A3 T.rows.length c3], .agg #[.int .i64 0, .int .i64 0], .int .i64 0], ?_, ?_⟩
        · have hr2 := Y7.out.own.r5
          clear hr
          simp [results, Tryz.results6, hr2, go_sem]
        · exact ⟨Y7.out.own.1, ⟨A1, A2, A3, c1, c2, c3⟩, by rw [E.out]; rfl, by rw [E.out]; exact TB.out _ _ Y7.out⟩
      · have E : Hid (prF s = (T0, 0, 1)) := hide (by rw [EF.out, PH.out, tl.out, te.out, hv]; rfl)
        rw [hv]
        clear PH tl te EF hv TB
        gi_wp2
        have Y6 := Y3.out.six (Nat.le_refl _) (.slice none 0 0) (.slice none 0 0) (.slice none 0 0) (.int .i64 0) (.int .i64 0) 1
        have K6 := (kp_six w3 (k := dk) (b := w.heap.size) (by omega) (by omega) (by omega) (.slice none 0 0) (.slice none 0 0) (.slice none 0 0) (.int .i64 0) (.int .i64 0) (.int .i64 1)).o.same dk _ K3.out rfl
        have Y7 := hide (Y6.taken hD K6)
        clear Y6
        refine ⟨by simp, .inl ⟨_, _, rfl, run_takeDeferred K6, ?_⟩⟩
        refine ⟨.tuple #[.agg #[.slice none 0 0, .slice none 0 0, .slice none 0 0], .agg #[.int .i64 0, .int .i64 0], .int .i64 1], ?_, ?_⟩
        · have hr2 := Y7.out.own.r5
          clear hr
          simp [results, Tryz.results6, hr2, go_sem]
        · exact PrtPost.err Y7.out.own.1 E.out
  case stop =>
    rintro dk c pre W' hD _ ⟨rfl, k, D, P, V, D', P', V', d0, ps, VL, rs, hp, Y⟩ hK
    have E : Hid (prF s = (T0, (k : Int) + 1, 7)) := hide (EF.out.trans hp)
    have YH := hide Y
    gi_wp2
    refine ⟨by simp, .inl ⟨_, _, rfl, run_takeDeferred hK, ?_⟩⟩
    refine ⟨.tuple #[.agg #[.slice none 0 0, .slice none 0 0, .slice none 0 0], .agg #[.int .i64 ((k : Int) + 1), .int .i64 1], .int .i64 7], ?_, ?_⟩
    · have hr2 := (YH.out.taken hD hK).own.r5
      simp [results, Tryz.results6, hr2, go_sem]
    · exact PrtPost.bad (YH.out.taken hD hK).own.1 E.out
end Go.Proofs.YtnhimgabcljahaaGreatDoor
