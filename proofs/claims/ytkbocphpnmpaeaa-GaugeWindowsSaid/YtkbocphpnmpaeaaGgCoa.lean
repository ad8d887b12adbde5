/- The program's Coarser of records, for factors that divide the number of depths, where no sum is too great: what it returns; nothing that was there is turned. -/
import Derived.Test.YtkbocphpnmpaeaaGgChk
import Derived.Test.YtkbocphpnmpaeaaShelf4
namespace Go.Proofs.Ytkbocphpnmpaeaa
open Go.RowKit Go.Shelf

attribute [local go_sem] Oper.semAt_some

theorem row_any {w : World} {base : Nat} {e : TypeId} {size n : Nat} {v : Value} {xs : List Value} (h : w.ownsRow base e size v n xs) : ∃ A c, v = .slice A n c := by
  rcases h.2 with ⟨rfl, h0⟩ | ⟨g, cap, _, rfl, _⟩
  · subst h0; exact ⟨none, 0, rfl⟩
  · exact ⟨_, cap, rfl⟩
/-- the record is done: it is stored as the result, then the rounds' deferred calls are taken -/
theorem Gat.post2 {w wr : World} {B2 o : Nat} {fr q : Int} {R : List (Nat × TypeId × Array Value)} {KK : List (Nat × Obj)} {v : Value} {n : Nat} {L : List Int} (h : Gat w wr B2 o fr q R KK v n L) {rb eb D : Nat} {c0 c1 c2 c3 : Value}
    (hrb : (rb, (24 : TypeId), #[c0, c1, c2]) ∈ R) (heb : (eb, (28 : TypeId), #[c3]) ∈ R) (hne : rb ≠ eb) (hw : w.heap.size ≤ rb) (hw' : w.heap.size ≤ eb) (x y z u : Value) (hD : w.heap.size ≤ D) (hK : wr.heap[D]? = some (.deferred (some [])))
    (hL : ∀ u ∈ L, -9223372036854775808 ≤ u ∧ u ≤ 9223372036854775807) (hn : L.length ≤ 9223372036854775807) (hf : -9223372036854775808 ≤ fr ∧ fr ≤ 9223372036854775807) (hq : -9223372036854775808 ≤ q ∧ q ≤ 9223372036854775807) :
    ((((wr.setCell ⟨rb, 0, none⟩ x).setCell ⟨rb, 1, none⟩ y).setCell ⟨rb, 2, none⟩ z).setCell ⟨eb, 0, none⟩ u).heap[D]? = some (.deferred (some [])) ∧
    SerPost ⟨fr, q, L⟩ 0 w (.returned (.tuple #[.agg #[.int .i64 fr, .int .i64 q, v], .int .i64 0])) (((((wr.setCell ⟨rb, 0, none⟩ x).setCell ⟨rb, 1, none⟩ y).setCell ⟨rb, 2, none⟩ z).setCell ⟨eb, 0, none⟩ u).putObj D (.deferred none)) ∧
    (∀ i, (((((wr.setCell ⟨rb, 0, none⟩ x).setCell ⟨rb, 1, none⟩ y).setCell ⟨rb, 2, none⟩ z).setCell ⟨eb, 0, none⟩ u).putObj D (.deferred none)).cell? ⟨rb, i, none⟩ = #[x, y, z][i]?) ∧
    (∀ i, (((((wr.setCell ⟨rb, 0, none⟩ x).setCell ⟨rb, 1, none⟩ y).setCell ⟨rb, 2, none⟩ z).setCell ⟨eb, 0, none⟩ u).putObj D (.deferred none)).cell? ⟨eb, i, none⟩ = #[u][i]?) := by
  have hB : Blk wr rb 24 #[c0, c1, c2] := h.own.2 _ (List.mem_cons_of_mem _ hrb)
  have hE : Blk wr eb 28 #[c3] := h.own.2 _ (List.mem_cons_of_mem _ heb)
  have ne : (3 : TypeId) ≠ 24 := by decide
  have ne' : (3 : TypeId) ≠ 28 := by decide
  have B1 := ((hB.set_ 0 x).set_ 1 y).set_ 2 z
  have E1 := ((hE.off hne.symm x (o := 0)).off hne.symm y (o := 1)).off hne.symm z (o := 2)
  have row := row_set (row_set (row_set (row_set h.row hB ne 0 x) (hB.set_ 0 x) ne 1 y) ((hB.set_ 0 x).set_ 1 y) ne 2 z) E1 ne' 0 u
  have B2' := B1.off hne u (o := 0)
  have E2 := E1.set_ 0 u
  have K1 : ((((wr.setCell ⟨rb, 0, none⟩ x).setCell ⟨rb, 1, none⟩ y).setCell ⟨rb, 2, none⟩ z).setCell ⟨eb, 0, none⟩ u).heap[D]? = some (.deferred (some [])) :=
    ((((KeepsOthers.setCell wr ⟨rb, 0, none⟩ x).trans (KeepsOthers.setCell _ ⟨rb, 1, none⟩ y)).trans (KeepsOthers.setCell _ ⟨rb, 2, none⟩ z)).trans (KeepsOthers.setCell _ ⟨eb, 0, none⟩ u)).same D _ hK rfl
  have BB : Below w.heap.size w ((((wr.setCell ⟨rb, 0, none⟩ x).setCell ⟨rb, 1, none⟩ y).setCell ⟨rb, 2, none⟩ z).setCell ⟨eb, 0, none⟩ u) := below_set (below_set (below_set (below_set h.own.1 hw x) hw y) hw z) hw' u
  generalize ((((wr.setCell ⟨rb, 0, none⟩ x).setCell ⟨rb, 1, none⟩ y).setCell ⟨rb, 2, none⟩ z).setCell ⟨eb, 0, none⟩ u) = F at *
  have row2 := ownsRow_putObj row (.deferred none) K1 rfl
  have g := grownBy_putObj' F D (.deferred none)
  have kb : ∀ (b : Nat) (t : TypeId) (cs : Array Value), Blk F b t cs → Blk (F.putObj D (.deferred none)) b t cs := fun b t cs hb => (g.block b (Array.getElem?_eq_some_iff.1 (show F.heap[b]? = _ from hb)).1 (fun e => by
    injection e with e
    subst e
    rw [show F.heap[b]? = _ from hb] at K1
    cases K1)).trans hb
  obtain ⟨A, c, e, hs⟩ := IntSl.of_row row2 hn (fun i hi => hL _ (List.getElem_mem hi))
  have hc : L.length ≤ c := by
    have hl := row2.1
    rw [List.length_map] at hl
    rcases row2.2 with ⟨e', h0⟩ | ⟨g, cap, cur, e', _, _, h4, _⟩
    · omega
    · rw [e] at e'
      injection e' with e1 e2 e3
      omega
  refine ⟨K1, ⟨BB.grown g BB.size (fun k hk => by injection hk with hk; omega), ⟨A, c⟩, by rw [e], hs, hc, hf, hq⟩, (kb _ _ _ B2').cell, (kb _ _ _ E2).cell⟩
set_option maxRecDepth 100000 in
set_option maxHeartbeats 4000000 in
theorem coarser_in (s : Ser) (a : SerA) (k m : Nat) (w : World) (hs : SerSl w s a) (hv : vS s = true) (h1 : 1 ≤ k) (h2 : s.st * (k : Int) ≤ 86400) (h3 : s.ds.length = m * k) (h4 : ∀ i, i < m → chV (part s.ds k i) ≤ 4194304) :
    Calls Try.prog 14 #[s.val a, .int .i64 (k : Int)] w (SerPost ⟨s.fr, s.st * (k : Int), chL s.ds k m⟩ 0 w) := by
  obtain ⟨fr, st, l⟩ := s
  obtain ⟨A, c⟩ := a
  have h2' : st * (k : Int) ≤ 86400 := h2
  have h3' : l.length = m * k := h3
  have h4' : ∀ i, i < m → chV (part l k i) ≤ 4194304 := h4
  have V := hide (fun W (h : SerSl W ⟨fr, st, l⟩ ⟨A, c⟩) => gvalid_any ⟨fr, st, l⟩ ⟨A, c⟩ W h)
  rw [hv] at V
  have v := vS_iff.1 hv
  have v1 : 1 ≤ st ∧ st ≤ 86400 := v.st
  have vf : -68719476736 ≤ fr ∧ fr ≤ 68719476736 := v.fr
  have HV := hide v.ok
  have le : l.length ≤ 10000 := v.le
  clear hv v h2 h3 h4
  have HS := hide hs
  have X := (((Own.start w).alloc #[.int .i64 fr, .int .i64 st, .slice A l.length c] 24).alloc #[.int .i64 0, .int .i64 0, .slice none 0 0] 24).alloc #[.int .i64 0] 28
  simp only [World.size_alloc] at X
  have hcap : l.length ≤ c := hs.2.1
  clear hs
  have hr := X.r3
  have k86 : (k : Int) ≤ 86400 := by
    have : (k : Int) * 1 ≤ (k : Int) * st := Int.mul_le_mul_of_nonneg_left v1.1 (by omega)
    rw [Int.mul_comm (k : Int) st] at this
    omega
  have d1 : (86400 : Int).tdiv st = 86400 / st := Int.tdiv_eq_ediv_of_nonneg (by omega)
  have d2 : (k : Int) ≤ 86400 / st := (Int.le_ediv_iff_mul_le (by omega)).2 (by rw [Int.mul_comm]; exact h2')
  have d3 : 86400 / st ≤ 86400 := Int.ediv_le_self _ (by omega)
  have d4 : IntKind.i64.wrap ((86400 : Int).tdiv st) = 86400 / st := by rw [d1]; exact IntWalk.i64_in _ (by omega)
  generalize hD : (86400 : Int) / st = D at *
  have d5 : IntKind.i64.wrap D = D := IntWalk.i64_in _ (by omega)
  have d6 : wrap64 D = D := IntWalk.wrap64_in _ (by omega)
  have q1 : decide (D < (k : Int)) = false := decide_eq_false (by omega)
  have q2 : decide ((k : Int) < 1) = false := decide_eq_false (by omega)
  have q3 : (st == 0) = false := beq_eq_false_iff_ne.2 (by omega)
  have q30 : ¬ st = 0 := by omega
  have q4 : ((k : Int) == 0) = false := beq_eq_false_iff_ne.2 (by omega)
  have q40 : ¬ (k : Int) = 0 := by omega
  have r1 : (l.length : Int).tmod (k : Int) = 0 := by
    rw [Int.tmod_eq_emod_of_nonneg (by omega), h3', Int.natCast_mul]
    exact Int.mul_emod_left _ _
  have r2 : IntKind.i64.wrap ((l.length : Int).tmod (k : Int)) = 0 := by rw [r1]; decide
  obtain ⟨q, hq⟩ : ∃ q, q = st * (k : Int) := ⟨_, rfl⟩
  have qb : 0 ≤ q ∧ q ≤ 86400 := by rw [hq]; exact ⟨Int.mul_nonneg (by omega) (by omega), h2'⟩
  have w2 : IntKind.i64.wrap (st * (k : Int)) = q := by rw [← hq]; exact IntWalk.i64_in _ (by omega)
  have QB := hide (And.intro (And.intro v1 vf) (And.intro h2' (And.intro h3' h4')))
  rw [← hq]
  clear hD d2 d3 h2' h3' h4' v1 vf hq
  show Calls Try.prog 14 #[.agg #[.int .i64 fr, .int .i64 st, .slice A l.length c], .int .i64 (k : Int)] w (SerPost ⟨fr, q, chL l k m⟩ 0 w)
  refine (callsIn_wide (n := 4)).1 ?_
  refine callsIn_of_wp_marks Try.func14 rfl trivial ?_ rfl
  simp only [Try.ntmps14, List.size_toArray, List.length_cons, List.length_nil, Nat.reduceAdd, Nat.reduceSub, Array.replicate_succ, Array.replicate_zero, List.push_toArray, List.append_toArray, List.nil_append, List.cons_append]
  gi_wp2_with fail
  refine ⟨trivial, (callsIn_wide.2 (V.out _ (HS.out.below X.1))).mono ?_⟩
  rintro e w1 ⟨rfl, hb⟩
  replace X := X.to hb
  clear hb hr V
  have hr := X.r3
  gi_wp2_with fail
  refine ⟨trivial, (chunk_in 3 A l.length c k h1 _).mono ?_⟩
  rintro e w2 ⟨rfl, rfl⟩
  have lt1 : w.heap.size + 2 < w1.heap.size := X.r1.2.2
  replace X := X.alloc #[.int .i64 fr, .int .i64 q, .slice none 0 0] 24
  have Z := (X.alloc #[.slice A l.length c] 22).alloc #[.int .i64 (k : Int)] 3
  simp only [World.size_alloc] at Z
  clear hr
  have bS := Z.2 (w1.heap.size + 1, 22, #[.slice A l.length c]) (by simp)
  have bN := Z.2 (w1.heap.size + 1 + 1, 3, #[.int .i64 (k : Int)]) (by simp)
  have Z2 := Z.tail.tail
  have cS := bS.cell 0
  have cN := bN.cell 0
  have bNl := bN.lt
  generalize hW : ((w1.alloc (.cells #[.int .i64 fr, .int .i64 q, .slice none 0 0] 24)).alloc (.cells #[.slice A l.length c] 22)).alloc (.cells #[.int .i64 (k : Int)] 3) = W at *
  have G0 : Gat w W W.heap.size w1.heap.size fr q [(w.heap.size + 1 + 1, 28, #[.int .i64 0]), (w.heap.size + 1, 24, #[.int .i64 0, .int .i64 0, .slice none 0 0]), (w.heap.size, 24, #[.int .i64 fr, .int .i64 st, .slice A l.length c])] [(w1.heap.size + 1, .cells #[.slice A l.length c] 22 (0, 0)), (w1.heap.size + 1 + 1, .cells #[.int .i64 (k : Int)] 3 (0, 0))] (.slice none 0 0) 0 [] := by
    refine ⟨Z2, World.ownsRow_nil _ _ _ _, ?_, ⟨Nat.le_refl _, Z2.1.size, by omega⟩, ?_, ?_⟩
    · intro p hp
      simp only [List.mem_cons, List.not_mem_nil, or_false] at hp
      rcases hp with rfl | rfl
      · exact ⟨bS, by show w1.heap.size + 1 < _; omega, by show w1.heap.size + 1 ≠ w1.heap.size; omega⟩
      · exact ⟨bN, by show w1.heap.size + 1 + 1 < _; omega, by show w1.heap.size + 1 + 1 ≠ w1.heap.size; omega⟩
    · intro x hx
      simp only [List.mem_cons, List.not_mem_nil, or_false] at hx
      rcases hx with rfl | rfl | rfl
      · show (3 : TypeId) ≠ 28; decide
      · show (3 : TypeId) ≠ 24; decide
      · show (3 : TypeId) ≠ 24; decide
    · intro x hx
      simp only [List.mem_cons, List.not_mem_nil, or_false] at hx
      rcases hx with rfl | rfl | rfl
      · show w.heap.size + 1 + 1 ≠ w1.heap.size; omega
      · show w.heap.size + 1 ≠ w1.heap.size; omega
      · show w.heap.size ≠ w1.heap.size; omega
  have GH := hide G0
  have hw2 : w.heap.size + 2 < W.heap.size := by omega
  clear hW Z Z2 bS bN X G0
  have HQ := QB.out
  obtain ⟨⟨v1, vf⟩, _, h3, h4⟩ := HQ
  have H3 := hide h3
  have H4 := hide h4
  have hAe : ∃ b off, 0 < m → A = some ⟨b, off, none⟩ ∧ b < w.heap.size ∧ ∀ i, i < l.length → w.cell? ⟨b, off + i, none⟩ = some (.int .i64 (l.getD i 0)) := by
    by_cases hm : 0 < m
    · obtain ⟨b, off, e, hb, hat⟩ := HS.out.1.atg (by show 0 < l.length; rw [h3]; exact Nat.mul_pos hm h1)
      exact ⟨b, off, fun _ => ⟨e, hb, hat⟩⟩
    · exact ⟨0, 0, fun h => absurd h hm⟩
  obtain ⟨b, off, hA⟩ := hAe
  clear h3 h4
  gi_wp2
  refine' wpIn_rangeFunc_ownG rfl (by decide) (gf := 54) (lb := #[.pointer (some ⟨w1.heap.size + 1, 0, none⟩), .pointer (some ⟨w1.heap.size + 1 + 1, 0, none⟩)]) rfl trivial (enters_of Try.func54 (by kernel_rfl) rfl)
    (chunk_stops 3 (by decide) (w1.heap.size + 1) (w1.heap.size + 1 + 1) b off l.length c k m A (fun h => (hA h).1) H3.out h1 hcap le (by omega) W cS cN) KpB.t (KpB.b (by omega) bNl) (Below.refl _ _) (fun _ => rfl)
    (fun pre W' => ∃ v, Gat w W' W.heap.size w1.heap.size fr q [(w.heap.size + 1 + 1, 28, #[.int .i64 0]), (w.heap.size + 1, 24, #[.int .i64 0, .int .i64 0, .slice none 0 0]), (w.heap.size, 24, #[.int .i64 fr, .int .i64 st, .slice A l.length c])] [(w1.heap.size + 1, .cells #[.slice A l.length c] 22 (0, 0)), (w1.heap.size + 1 + 1, .cells #[.int .i64 (k : Int)] 3 (0, 0))] v pre.length (pre.map (fun x : Fin m => chV (part l k x.1))))
    (fun _ _ _ => False)
    (fun s A B row hs hg hr => by obtain ⟨v, hs⟩ := hs; exact ⟨v, hs.turn hg hr⟩)
    (fun _ _ _ _ _ hs _ _ => hs)
    ⟨_, GH.out⟩
    _ ?assign ?body ?done ?stop
  case assign =>
    intro l x W K hK
    gi_wp2
    exact hK
  case body =>
    rintro l' pre x W' ⟨v, Y⟩ hlt
    obtain ⟨_, hbl, hat⟩ := hA (Nat.lt_of_le_of_lt (Nat.zero_le _) x.2)
    have HA := hide hA
    have hk1 : (1 : Nat) ≤ 4 - 1 - 1 := by decide
    have PL := part_length H3.out x.2
    have hxl : x.1 * k + k ≤ l.length := by
      have := Nat.mul_le_mul_right k x.2
      rw [Nat.succ_mul] at this
      rw [H3.out]; exact this
    have cP : ∀ j, j < k → W'.cell? ⟨b, off + x.1 * k + j, none⟩ = some (.int .i64 ((part l k x.1).getD j 0)) := fun j hj => by
      rw [part_at hj, Nat.add_assoc]
      exact (Y.own.1.cell (p := ⟨b, off + (x.1 * k + j), none⟩) hbl).trans (hat (x.1 * k + j) (by omega))
    have vP : ∀ j, j < (part l k x.1).length → -1 ≤ (part l k x.1).getD j 0 ∧ (part l k x.1).getD j 0 ≤ 4194304 := fun j hj => by
      rw [PL] at hj
      rw [part_at hj]
      exact HV.out _ (by omega)
    have c4 := H4.out x.1 x.2
    dsimp only [chEnc]
    have E1 : Hid ((pre ++ [x]).map (fun x : Fin m => chV (part l k x.1)) = pre.map (fun x : Fin m => chV (part l k x.1)) ++ [chV (part l k x.1)]) := hide (by simp)
    generalize hL0 : pre.map (fun x : Fin m => chV (part l k x.1)) = L0 at *
    generalize part l k x.1 = P at *
    generalize off + x.1 * k = O at *
    clear hL0 hat cS cN
    rename_i hAe0
    clear hAe0
    have PB := hide (fun i hi => ps_le (fun i hi => (vP i hi).2) i hi)
    have VP := hide vP
    have CP := hide cP
    have YH := hide Y
    have hml : m ≤ 10000 := by have := H3.out; have := Nat.le_mul_of_pos_right m h1; omega
    clear cP vP Y hA
    gi_wp2
    gi_loop [8, 10, 49] (fun v8 v10 v49 => ∃ j : Nat, j ≤ k ∧ v49 = .int .i64 (j : Int) ∧ v8 = .int .i64 (ps P j)) (fun _ _ v49 => k - (intOf v49).toNat)
    case atStart => exact ⟨0, by omega, rfl, rfl⟩
    case round =>
      obtain ⟨j, hj, rfl, rfl⟩ := hrel
      by_cases hlt2 : j < k
      · have c0 := CP.out j hlt2
        have D1 := hide (fun W => gdepth_any (P.getD j 0) W)
        obtain ⟨y, hy⟩ : ∃ y, y = max (P.getD j 0) 0 := ⟨_, rfl⟩
        have E2 : Hid (ps P (j + 1) = ps P j + y) := hide (by rw [hy]; rfl)
        have p0 := PB.out j (by omega)
        have p1 := ps_nonneg P j
        have v0 := VP.out j (by omega)
        have v0' : P.getD j 0 ≤ 4194304 := v0.2
        have y0 : 0 ≤ y ∧ y ≤ 4194304 := by rw [hy]; omega
        rw [← hy] at D1
        have s1 := IntWalk.i64_in (ps P j + y) (by omega)
        have g1 : (j : Int) < (k : Int) := by omega
        clear hy p0 p1 v0 v0' y0
        generalize P.getD j 0 = d at *
        generalize ps P j = S at *
        gi_wp2_with fail
        refine ⟨trivial, (CallsIn.inRound l' (callsIn_wide.2 (D1.out _))).mono ?_⟩
        rintro e w3 ⟨rfl, rfl⟩
        gi_wp2
        go_round
        case rel => exact ⟨j + 1, by omega, by go_num, by rw [E2.out]⟩
        case measure => simp [intOf]; omega
      · obtain rfl : j = k := by omega
        have CT := Try.slices_Contains_int b O j j P (-1) W' (by omega) (by omega) (fun i hi => CP.out i (by omega))
        rw [List.take_of_length_le (by omega)] at CT
        have CTH := hide CT
        have EC : Hid (chV P = if P.contains (-1) then -1 else ps P j) := hide (by rw [chV, PL])
        clear CT
        gi_wp2_with fail
        refine ⟨trivial, (CallsIn.inRound l' (callsIn_wide.2 CTH.out)).mono ?_⟩
        rintro e w3 ⟨rfl, rfl⟩
        obtain ⟨i0, hi0, hz0, hz1, hz2⟩ := info_parts int_info17
        rcases Bool.eq_false_or_eq_true (P.contains (-1)) with hc | hc
        · have E5 : Hid (chV P = -1) := hide (by rw [EC.out, hc]; rfl)
          rw [hc]
          have hr := YH.out.own.r1
          have sq : decide ((4194304 : Int) < -1) = false := decide_eq_false (by have := E5.out; omega)
          have f1 : pre.length + 1 ≤ maxLen := by unfold maxLen; omega
          have f2 : (pre.length + 1) * 8 ≤ 140737488355328 := by omega
          have f3 : W.heap.size ≤ (w3.alloc (.cells #[.int .i64 (-1)] 3)).heap.size := by have := YH.out.b2.1; simp; omega
          have f4 : ∀ u ∈ [Value.int .i64 (-1)], u.oneCell' = true := by intro u hu; simp at hu; subst hu; rfl
          clear hc EC
          gi_wp2_with (gi_at_builtin; refine wpListIn_append_form _ rfl _ _ 22 rfl W.heap.size 3 i0 (.int .i64 0) 1 8 Try.underlying22 hi0 hz0 hz1 hz2 rfl (by decide) _ pre.length (L0.map (Value.int .i64)) rfl (YH.out.row.alloc (.cells #[.int .i64 (-1)] 3)) ⟨w3.heap.size, 0, none⟩ 1 1 [.int .i64 (-1)] rfl rfl (World.news_of_block (cs := #[.int .i64 (-1)]) (t := 3) (fr := (0, 0)) (heap_alloc_new w3 _)) f4 (by decide) f1 f2 f3 ?_; intro gg cp w4 hown4 hgrow; have hr4 := ((YH.out.alloc (.cells #[.int .i64 (-1)] 3)).grown hgrow).r1)
          have Y5 := (YH.out.alloc (.cells #[.int .i64 (-1)] 3)).app (L4 := L0 ++ [-1]) (by rw [List.map_append]; exact hown4) hgrow
          refine ⟨(YH.out.others hgrow).from _, ⟨(Y5.keep _ (List.mem_cons_self ..)).1.trans (YH.out.keep _ (List.mem_cons_self ..)).1.symm, (Y5.keep _ (List.mem_cons_of_mem _ (List.mem_cons_self ..))).1.trans (YH.out.keep _ (List.mem_cons_of_mem _ (List.mem_cons_self ..))).1.symm⟩, ⟨.slice (some ⟨gg, 0, none⟩) (pre.length + 1) cp, ?_⟩⟩
          rw [E1.out, E5.out, List.length_append]
          exact Y5
        · have E5 : Hid (chV P = ps P j) := hide (by rw [EC.out, hc]; rfl)
          rw [hc]
          have hr := YH.out.own.r1
          have sq : decide ((4194304 : Int) < ps P j) = false := decide_eq_false (by have := E5.out; omega)
          have f1 : pre.length + 1 ≤ maxLen := by unfold maxLen; omega
          have f2 : (pre.length + 1) * 8 ≤ 140737488355328 := by omega
          have f3 : W.heap.size ≤ (w3.alloc (.cells #[.int .i64 (ps P j)] 3)).heap.size := by have := YH.out.b2.1; simp; omega
          have f4 : ∀ u ∈ [Value.int .i64 (ps P j)], u.oneCell' = true := by intro u hu; simp at hu; subst hu; rfl
          clear hc EC
          generalize ps P j = S at *
          gi_wp2_with (gi_at_builtin; refine wpListIn_append_form _ rfl _ _ 22 rfl W.heap.size 3 i0 (.int .i64 0) 1 8 Try.underlying22 hi0 hz0 hz1 hz2 rfl (by decide) _ pre.length (L0.map (Value.int .i64)) rfl (YH.out.row.alloc (.cells #[.int .i64 (S)] 3)) ⟨w3.heap.size, 0, none⟩ 1 1 [.int .i64 (S)] rfl rfl (World.news_of_block (cs := #[.int .i64 (S)]) (t := 3) (fr := (0, 0)) (heap_alloc_new w3 _)) f4 (by decide) f1 f2 f3 ?_; intro gg cp w4 hown4 hgrow; have hr4 := ((YH.out.alloc (.cells #[.int .i64 (S)] 3)).grown hgrow).r1)
          have Y5 := (YH.out.alloc (.cells #[.int .i64 (S)] 3)).app (L4 := L0 ++ [S]) (by rw [List.map_append]; exact hown4) hgrow
          refine ⟨(YH.out.others hgrow).from _, ⟨(Y5.keep _ (List.mem_cons_self ..)).1.trans (YH.out.keep _ (List.mem_cons_self ..)).1.symm, (Y5.keep _ (List.mem_cons_of_mem _ (List.mem_cons_self ..))).1.trans (YH.out.keep _ (List.mem_cons_of_mem _ (List.mem_cons_self ..))).1.symm⟩, ⟨.slice (some ⟨gg, 0, none⟩) (pre.length + 1) cp, ?_⟩⟩
          rw [E1.out, E5.out, List.length_append]
          exact Y5
  case done =>
    rintro D2 ys W2 hD hys ⟨v, Y⟩ hK
    have yl : ys.length = m := by have := congrArg List.length hys; simpa using this
    have yL : ys.map (fun x : Fin m => chV (part l k x.1)) = chL l k m := by
      rw [chL, ← hys, List.map_map]; rfl
    rw [yl, yL] at Y
    clear yl yL hys
    obtain ⟨A', cp, rfl⟩ := row_any Y.row
    have hr := Y.own.r4
    have YH := hide Y
    clear Y cS cN
    have ml : m ≤ l.length := by rw [H3.out]; exact Nat.le_mul_of_pos_right m h1
    have cb : ∀ u ∈ chL l k m, -9223372036854775808 ≤ u ∧ u ≤ 9223372036854775807 := fun u hu => by
      obtain ⟨i, hi, rfl⟩ := List.mem_map.1 hu
      have hi' := List.mem_range.1 hi
      have h4 := H4.out i hi'
      have : -1 ≤ chV (part l k i) := by
        unfold chV
        split
        · omega
        · have := ps_nonneg (part l k i) (part l k i).length; omega
      omega
    have P2 := YH.out.post2 (rb := w.heap.size + 1) (eb := w.heap.size + 1 + 1) (D := D2) (List.mem_cons_of_mem _ (List.mem_cons_self ..)) (List.mem_cons_self ..) (by omega) (by omega) (by omega) (.int .i64 fr) (.int .i64 q) (.slice A' m cp) (.int .i64 0) (by omega) hK cb (by rw [chL_length]; omega) (by omega) (by omega)
    have PH := hide P2
    clear P2 cb
    gi_wp2
    refine ⟨by simp, .inl ⟨_, _, rfl, run_takeDeferred PH.out.1, ?_⟩⟩
    refine ⟨.tuple #[.agg #[.int .i64 fr, .int .i64 q, .slice A' m cp], .int .i64 0], ?_, PH.out.2.1⟩
    have c1 := PH.out.2.2.1
    have c2 := PH.out.2.2.2
    clear hr
    simp [results, Try.results14, c1, c2, go_sem]
  case stop =>
    rintro D2 c2 pre W2 _ _ h _
    exact h.elim
end Go.Proofs.Ytkbocphpnmpaeaa
