/- The reference's Without: the network without a link, at other places; nothing that was there is turned. (Printed by gen_nc.py.) -/
import Derived.Test.YtdcdfjinbieblaaGreatDoorPkCostsLengths2
import Derived.Deep.RegionHeldLaw
namespace Go.Proofs.YtdcdfjinbieblaaGreatDoor
open Go Go.RowKit

theorem Own.bk {w W : World} {b : Nat} {t : TypeId} {c : Array Value} {L : List (Nat × TypeId × Array Value)} (h : Own w W ((b, t, c) :: L)) : Blk W b t c := h.2 (b, t, c) (List.mem_cons_self ..)
theorem two_slices {a : Option Addr} {n c : Nat} {a' : Option Addr} {n' c' : Nat} {i : Nat} {v : Value} (h : (#[Value.slice a n c, Value.slice a' n' c'] : Array Value)[i]? = some v) : v = .slice a n c ∨ v = .slice a' n' c' := by
  match i, h with
  | 0, h => exact .inl (Option.some.inj h).symm
  | 1, h => exact .inr (Option.some.inj h).symm
  | i + 2, h => simp at h
section
variable {W : World} {g : Nat} {t : TypeId} {a : Option Addr} {n c : Nat} {a' : Option Addr} {n' c' : Nat} {A : Option Addr}
theorem off_cell {b o : Nat} {v : Value} (hne : b ≠ g) (i : Nat) (u : Value) (h : W.cell? ⟨b, o, none⟩ = some v) : (W.setCell ⟨g, i, none⟩ u).cell? ⟨b, o, none⟩ = some v :=
  (World.cell?_of_block (Below.heap_setCell W ⟨g, i, none⟩ u b hne)).trans h
theorem size_set {p : Addr} {u : Value} : W.heap.size ≤ (W.setCell p u).heap.size := by simp [World.setCell]
theorem KnSl.off {l : List Knt} (hB : Blk W g t #[.slice a n c, .slice a' n' c']) (h : KnSl W A l) (i : Nat) (u : Value) : KnSl (W.setCell ⟨g, i, none⟩ u) A l := by
  refine ⟨h.1, fun h0 => ?_⟩
  obtain ⟨b, off, e, hlt, hat⟩ := h.2 h0
  have hne : b ≠ g := by
    rintro rfl
    have q := (hat 0 h0).1
    rw [hB.cell] at q
    rcases two_slices q with q | q <;> cases q
  exact ⟨b, off, e, Nat.lt_of_lt_of_le hlt size_set, fun j hj => ⟨off_cell hne i u (hat j hj).1, off_cell hne i u (hat j hj).2⟩⟩
theorem NodSl.off {l : List Nod} (hB : Blk W g t #[.slice a n c, .slice a' n' c']) (h : NodSl W A l) (i : Nat) (u : Value) : NodSl (W.setCell ⟨g, i, none⟩ u) A l := by
  refine ⟨⟨h.1.1, fun j hj => ⟨(h.1.2 j hj).1, (h.1.2 j hj).2.off hB i u⟩⟩, fun h0 => ?_⟩
  obtain ⟨b, off, e, hlt, hat⟩ := h.2 h0
  have hne : b ≠ g := by
    rintro rfl
    have q := (hat 0 h0).c0
    rw [hB.cell] at q
    rcases two_slices q with q | q <;> cases q
  refine ⟨b, off, e, Nat.lt_of_lt_of_le hlt size_set, fun j hj => ?_⟩
  have k := fun {o : Nat} {v : Value} (q : W.cell? ⟨b, o, none⟩ = some v) => off_cell hne i u q
  exact ⟨k (hat j hj).c0, k (hat j hj).c1, k (hat j hj).c2, k (hat j hj).c3, k (hat j hj).c4, k (hat j hj).c5, k (hat j hj).c6, k (hat j hj).c7, k (hat j hj).c8⟩
theorem LnkSl.off {l : List Lnk} (hB : Blk W g t #[.slice a n c, .slice a' n' c']) (h : LnkSl W A l) (i : Nat) (u : Value) : LnkSl (W.setCell ⟨g, i, none⟩ u) A l := by
  refine ⟨⟨h.1.1, fun j hj => ⟨(h.1.2 j hj).1, (h.1.2 j hj).2.off hB i u⟩⟩, fun h0 => ?_⟩
  obtain ⟨b, off, e, hlt, hat⟩ := h.2 h0
  have hne : b ≠ g := by
    rintro rfl
    have q := (hat 0 h0).c0
    rw [hB.cell] at q
    rcases two_slices q with q | q <;> cases q
  refine ⟨b, off, e, Nat.lt_of_lt_of_le hlt size_set, fun j hj => ?_⟩
  have k := fun {o : Nat} {v : Value} (q : W.cell? ⟨b, o, none⟩ = some v) => off_cell hne i u q
  exact ⟨k (hat j hj).c0, k (hat j hj).c1, k (hat j hj).c2, k (hat j hj).c3, k (hat j hj).c4, k (hat j hj).c5, k (hat j hj).c6, k (hat j hj).c7, k (hat j hj).c8, k (hat j hj).c9, k (hat j hj).ca⟩
end
theorem flat_take {α : Type} (f : α → List Value) (m : Nat) (hf : ∀ x, (f x).length = m) : ∀ (l : List α) (k : Nat), (l.flatMap f).take (k * m) = (l.take k).flatMap f
  | [], k => by simp
  | a :: l, 0 => by simp
  | a :: l, k + 1 => by
    rw [List.flatMap_cons, List.take_succ_cons, List.flatMap_cons, List.take_append, List.take_of_length_le (by rw [hf, Nat.succ_mul]; omega), hf, show (k + 1) * m - m = k * m by rw [Nat.succ_mul]; omega]
    rw [flat_take f m hf l k]
theorem flat_drop {α : Type} (f : α → List Value) (m : Nat) (hf : ∀ x, (f x).length = m) : ∀ (l : List α) (k : Nat), (l.flatMap f).drop (k * m) = (l.drop k).flatMap f
  | [], k => by simp
  | a :: l, 0 => by simp
  | a :: l, k + 1 => by
    rw [List.flatMap_cons, List.drop_succ_cons, List.drop_append, List.drop_eq_nil_of_le (by rw [hf, Nat.succ_mul]; omega), List.nil_append, hf, show (k + 1) * m - m = k * m by rw [Nat.succ_mul]; omega]
    exact flat_drop f m hf l k
theorem Reads.pre {w : World} {B size n : Nat} {A : Option Addr} {xs : List Value} (h : Reads w B size A n xs) {k : Nat} (hk : k ≤ n) : Reads w B size A k (xs.take (k * size)) := by
  refine ⟨by rw [List.length_take, h.1]; exact Nat.min_eq_left (Nat.mul_le_mul_right _ hk), fun h0 => ?_⟩
  obtain ⟨ad, e, hb, hc⟩ := h.2 (by omega)
  refine ⟨ad, e, hb, fun j u hu => hc j u ?_⟩
  rw [List.getElem?_take] at hu
  split at hu
  · exact hu
  · cases hu
theorem one_take (l : List Lnk) (k : Nat) : ∀ u ∈ flatLk (l.take k), u.oneCell' = true := flatLk_one _
theorem one_drop (l : List Lnk) (k : Nat) : ∀ u ∈ flatLk (l.drop k), u.oneCell' = true := flatLk_one _
theorem map_erase {α β : Type} (f : α → β) (l : List α) (k : Nat) : (l.eraseIdx k).map f = (l.map f).eraseIdx k := by
  rw [List.eraseIdx_eq_take_drop_succ, List.eraseIdx_eq_take_drop_succ, List.map_append, List.map_take, List.map_drop]
set_option maxRecDepth 100000 in
set_option maxHeartbeats 8000000 in
theorem rwithout_any (nl : List Nod) (A : Option Addr) (cA : Nat) (ll : List Lnk) (B : Option Addr) (cB : Nat) (k : Nat) (w : World) (h : NodSl w A nl ∧ LnkSl w B ll) (h1 : nl.length ≤ 300) (h2 : ll.length ≤ 400) (m1 : ∀ i (hi : i < nl.length), nl[i].sh.l.length ≤ 100) (m2 : ∀ i (hi : i < ll.length), ll[i].cu.l.length ≤ 100) (hk : k < ll.length) :
    Calls Tryz.prog 15 #[.agg #[.slice A nl.length cA, .slice B ll.length cB], .int .i64 (k : Int)] w (NetP nl (ll.eraseIdx k) w) := by
  have CPY := hide (fun W (hb : Below w.heap.size w W) => rcopyn_any nl A cA ll B cB W ⟨h.1.below hb, h.2.below hb⟩ h1 h2 m1 m2)
  obtain ⟨iL, hL0, hL1, hL2, hL3⟩ := info_parts lnk_info
  have X := ((Own.start w).alloc #[.slice A nl.length cA, .slice B ll.length cB] 25).alloc #[.slice none 0 0, .slice none 0 0] 25
  simp only [World.size_alloc] at X
  have hr := X.r2
  replace X := hide X
  unfold NetP at CPY
  clear h m1 m2
  go_enter Tryz.func15, Tryz.ntmps15
  go_wp2_with fail
  refine (CPY.out _ X.out.1).mono ?_
  rintro e w1 ⟨hb, ns, ls, A1, c1, B1, c2, rfl, hn, hl, hcap, em1, em2⟩
  replace X := hide (X.out.to hb)
  clear hb hr CPY
  have bw : w.heap.size + 1 < w1.heap.size := X.out.r1.2.2
  have lsl : ls.length = ll.length := by
    have q := congrArg List.length em2
    rwa [List.length_map, List.length_map] at q
  have kl : k < ls.length := by omega
  have l400 : ls.length ≤ 400 := by omega
  have hne : ¬ ls.length = 0 := by omega
  have XO := hide (X.out.alloc #[.slice A1 ns.length c1, .slice B1 ls.length c2] 25)
  have HN := hide (hn.below ((Below.refl w1.heap.size w1).alloc (Nat.le_refl _) (.cells #[.slice A1 ns.length c1, .slice B1 ls.length c2] 25)))
  have HL := hide (hl.below ((Below.refl w1.heap.size w1).alloc (Nat.le_refl _) (.cells #[.slice A1 ns.length c1, .slice B1 ls.length c2] 25)))
  have hr := XO.out.r3
  have EM := hide (And.intro em1 (show (ls.eraseIdx k).map Lnk.er = (ll.eraseIdx k).map Lnk.er by rw [map_erase, map_erase, em2]))
  clear hn hl em1 em2 X lsl
  go_upto_region 2 with (fail)
  generalize hW : w1.alloc (.cells #[.slice A1 ns.length c1, .slice B1 ls.length c2] 25) = Wo at *
  clear hW
  have bo1 : w1.heap.size < Wo.heap.size := hr.1.2.2
  generalize w1.heap.size = bo at *
  have XA := hide (XO.out.alloc #[] 50).drew
  have hr2 := XA.out.r4
  have RM := hide (row_drew (World.ownsRow_made (base := Wo.heap.size) (e := 50) (size := 11) Wo #[] 0 (Nat.le_refl _) (Nat.zero_le _) rfl))
  have BA := hide (((Below.refl Wo.heap.size Wo).alloc (Nat.le_refl _) (.cells #[] 50)).drew)
  have RD := HL.out.reads.below BA.out
  have RP := RD.pre (k := k) (by omega)
  have RC := RD.cut (k := k + 1) (cap := c2) (by omega) hcap
  unfold flatLk at RP RC
  rw [flat_take Lnk.cs 11 (fun _ => rfl)] at RP
  rw [flat_drop Lnk.cs 11 (fun _ => rfl)] at RC
  have RP := hide RP
  have RC := hide RC
  have k0 : (0 : Int) ≤ (k : Int) := by omega
  have k1 : (k : Int) ≤ (c2 : Int) := by omega
  have k2 : k ≤ c2 := by omega
  have k3 : IntKind.i64.wrap ((k : Int) + 1) = (k : Int) + 1 := IntWalk.i64_in _ (by omega)
  have k6 : (0 : Int) ≤ (k : Int) + 1 := by omega
  have k7 : (k : Int) + 1 ≤ (ls.length : Int) := by omega
  have k4 : k + 1 ≤ ls.length := by omega
  have k5 : ls.length ≤ c2 := hcap
  have f1 : 0 + k ≤ maxLen := by unfold maxLen; omega
  have f2 : (0 + k) * 136 ≤ 140737488355328 := by omega
  have f3 : Wo.heap.size ≤ (Wo.alloc (.cells #[] 50)).drew.heap.size := BA.out.size
  have g1 : 0 + k + (ls.length - (k + 1)) ≤ maxLen := by unfold maxLen; omega
  have g2 : (0 + k + (ls.length - (k + 1))) * 136 ≤ 140737488355328 := by omega
  have G1 := hide (fun (v4 : Value) (w4 : World) (ho : w4.ownsRow Wo.heap.size 50 11 v4 (0 + k) ([] ++ (ls.take k).flatMap Lnk.cs)) (hg : (Wo.alloc (.cells #[] 50)).drew.grownBy w4 (Value.slice (some ⟨Wo.heap.size, 0, none⟩) 0 0).ownBlock) =>
    And.intro (BA.out.grown hg BA.out.size (fun j hj => Nat.le_of_eq (Option.some.inj (show some Wo.heap.size = some j from hj)))) (RC.out.grown hg BA.out.size (fun j hj => Nat.le_of_eq (Option.some.inj (show some Wo.heap.size = some j from hj)))))
  go_region_law
    (first
      | (refine step_append_any (w := (Wo.alloc (.cells #[] 50)).drew) (by rfl) _ _ _ (by rfl) Wo.heap.size 50 iL _ 11 136 Tryz.underlying23 hL0 hL1 hL2 hL3 rfl (by omega) _ 0 [] (by rfl) RM.out _ _ _ _ ((ls.take k).flatMap Lnk.cs) (by rfl) RP.out (one_take ls k) f1 f2 f3 ?_; intro v4 w4 hown4 hg4 hor4; have q1 := G1.out _ _ hown4 hg4; have hr4 := (XO.out.to q1.1).r3)
      | (refine step_append_any (w := w4) (by rfl) _ _ _ (by rfl) Wo.heap.size 50 iL _ 11 136 Tryz.underlying23 hL0 hL1 hL2 hL3 rfl (by omega) _ (0 + k) ([] ++ (ls.take k).flatMap Lnk.cs) (by rfl) hown4 _ _ _ _ ((ls.drop (k + 1)).flatMap Lnk.cs) (by rfl) q1.2 (one_drop ls (k + 1)) g1 g2 q1.1.size ?_; intro v6 w6 hown6 hg6 hor6; obtain ⟨A6, c6, rfl⟩ := row_v hown6; have B6 := q1.1.grown hg6 q1.1.size (fun j hj => (hown4.lt j hj).1); have hr6 := (XO.out.to B6).r3))
  all_goals
    have X6 := XO.out.to B6
    have row : w6.ownsRow Wo.heap.size 50 11 (.slice A6 (ls.eraseIdx k).length c6) (ls.eraseIdx k).length (flatLk (ls.eraseIdx k)) := by
      have e1 : (ls.eraseIdx k).length = 0 + k + (ls.length - (k + 1)) := by rw [List.length_eraseIdx_of_lt kl]; omega
      have e2 : flatLk (ls.eraseIdx k) = [] ++ (ls.take k).flatMap Lnk.cs ++ (ls.drop (k + 1)).flatMap Lnk.cs := by
        rw [List.eraseIdx_eq_take_drop_succ]; simp [flatLk]
      rw [e1, e2]
      exact hown6
    have e1 : (ls.eraseIdx k).length = k + (ls.length - (k + 1)) := by rw [List.length_eraseIdx_of_lt kl]; omega
    have MEM : ∀ x ∈ ls.eraseIdx k, (x.nm.size ≤ maxLen ∧ x.fr.size ≤ maxLen ∧ x.tn.size ≤ maxLen ∧ x.se.size ≤ maxLen) ∧ KnSl w6 x.cu.A x.cu.l := fun x hx => by
      obtain ⟨i, hi, rfl⟩ := List.mem_iff_getElem.1 (List.mem_of_mem_eraseIdx hx)
      exact (HL.out.below B6).1.2 i hi
    have n1 : ¬ w.heap.size + 1 = bo := by omega
    have n2 : ¬ w.heap.size = bo := by omega
    have X7 := X6.set0 (b := bo) (by omega) (by simp; omega) 1 (.slice A6 (k + (ls.length - (k + 1))) c6)
    have S6 := (HN.out.below B6).off X6.bk 1 (.slice A6 (k + (ls.length - (k + 1))) c6)
    have T6 := (LnkSl.of_row row MEM).off X6.bk 1 (.slice A6 (k + (ls.length - (k + 1))) c6)
    have X8 := X7.swap.set0 (b := w.heap.size + 1) (by omega) (by simp; omega) 0 (.slice A1 ns.length c1)
    have S7 := S6.off X7.swap.bk 0 (.slice A1 ns.length c1)
    have T7 := T6.off X7.swap.bk 0 (.slice A1 ns.length c1)
    have X9 := X8.set0 (b := w.heap.size + 1) (by omega) (by simp; omega) 1 (.slice A6 (k + (ls.length - (k + 1))) c6)
    have S8 := S7.off X8.bk 1 (.slice A6 (k + (ls.length - (k + 1))) c6)
    have T8 := T7.off X8.bk 1 (.slice A6 (k + (ls.length - (k + 1))) c6)
    have hr7 := X7.r2
    have hr9 := X9.r1
    have hcap6 : (ls.eraseIdx k).length ≤ c6 := by
      rcases row_sl row with ⟨q, h0⟩ | ⟨g, c, q, _, _, hc⟩
      · omega
      · injection q with q1 q2 q3; omega
    have HP := hide (show NetP nl (ll.eraseIdx k) w (.returned (.agg #[.slice A1 ns.length c1, .slice A6 (k + (ls.length - (k + 1))) c6])) _ from ⟨X9.1, ns, ls.eraseIdx k, A1, c1, A6, c6, by rw [e1], S8, T8, hcap6, EM.out⟩)
    clear X6 row MEM X7 S6 T6 X8 S7 T7 X9 S8 T8 hcap6 e1 EM q1 B6 hown4 hg4 hown6 hg6 hr6 hr4 RM RP RC RD BA G1
    go_wp2
    all_goals exact bodyPost_ret (v := .agg #[.slice A1 ns.length c1, .slice A6 (k + (ls.length - (k + 1))) c6]) (by simp [results, Tryz.results15, hr9, go_sem]) rfl HP.out
end Go.Proofs.YtdcdfjinbieblaaGreatDoor
