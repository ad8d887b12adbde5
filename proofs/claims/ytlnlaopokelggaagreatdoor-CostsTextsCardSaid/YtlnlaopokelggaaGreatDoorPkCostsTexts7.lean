/- Parts of one proof, joined: Regions that draw their order, of reads and calls that leave a class of worlds, ahead of some last operations that wait for all of them: one walk in the order of the text. The program's signed wide integers: Add, Product, Floor, Ceil, Int, Of: what each returns where nothing is too great; nothing that was there is turned. The program's signed wide integers: Product, Floor, Ceil, Int, Of: what each returns where nothing is too great; nothing that was there is turned. Slices of points; slices.IndexFunc and slices.ContainsFunc at points; the program's all, square, Distance of points: what each returns; nothing that was there is turned. The program's Root of wide integers, Distance of points: what each returns; nothing that was there is turned. The program's corners of a face, the place of a spot, the turn of points, and the first side of a face that a point is outside of: what each returns; nothing that was there is turned (printed by gen_lc.py). -/
import Derived.Test.YtlnlaopokelggaaGreatDoorPkCostsTexts6
import Derived.StillTail
import Derived.Deep.RegionWith
import Derived.Test.YtlnlaopokelggaaGreatDoorPkCostsTexts3
namespace Go.Proofs.YtlnlaopokelggaaGreatDoor
open Go Go.RowKit

section
variable {P : Program} {ops : Array Oper} {md : Region.Mode} {C : World → Prop} {n : Nat}
/-- so many picks, all out of the head, and then L -/
def picks (P : Program) (md : Region.Mode) (ops : Array Oper) (C : World → Prop) (n : Nat) (L : Array Bool → Act → Prop) : Nat → Array Bool → Act → Prop
  | 0, m, a => L m a
  | f + 1, m, a => Region.ready md ops m ≠ [] ∧ ∀ i ∈ Region.ready md ops m, i < n ∧ qOp P ops C i (picks P md ops C n L f (m.setIfInBounds i true)) a
theorem any_of_picks {L : Array Bool → Act → Prop} {g : Nat} {Q : Exit → Act → World → Prop} (h : ∀ m a w, C w → L m a → wpAny P md ops Q g m a w) (f : Nat) : ∀ m a w, C w → picks P md ops C n L f m a → wpAny P md ops Q (f + g) m a w := by
  induction f with
  | zero => intro m a w hw hp; rw [Nat.zero_add]; exact h m a w hw hp
  | succ f ih =>
    intro m a w hw hp
    rw [Nat.add_right_comm]
    refine ⟨fun e => absurd e hp.1, fun i hi => ?_⟩
    exact wpOp_of_qOp hw (fun a' w' hw' hp' => ih _ a' w' hw' hp') (hp.2 i hi).2
/-- what no longer waits for i -/
theorem not_on {m : Array Bool} {i j : Nat} (hi : i ∈ Region.ready md ops m) (hj : j ∈ Region.ready md ops m) : ∀ o, ops[j]? = some o → ∀ e ∈ o.after, Region.binds md e = true → e.on ≠ i := by
  intro o ho e he hb eq
  obtain ⟨_, o', ho', all⟩ := mem_ready.1 hj
  obtain rfl := Option.some.inj (ho.symm.trans ho')
  have q := all e he hb
  rw [eq, getD_both (mem_ready.1 hi).1] at q
  cases q
/-- one that may come up now may be taken first -/
theorem picks_take {L : Array Bool → Act → Prop} {i : Nat} {o : Oper} {v : Value} (ho : ops[i]? = some o) (hsel : Region.noSelect ops = true) (hsink : Region.sinkB md ops n = true) (hch : Region.chainB md ops n = true) (hn : n < ops.size) (hin : i < n)
    (hL : ∀ m a, L m a → ∀ j ∈ Region.ready md ops m, n ≤ j) (f : Nat) : ∀ m a, HeadInv md ops n m →
      (∀ j oj, ops[j]? = some oj → j ≠ i → m.getD j true = false → (∀ e ∈ oj.after, Region.binds md e = true → e.on ≠ i) → o.apart ops oj = true) →
      i ∈ Region.ready md ops m → YieldsIn P ops C o v a → picks P md ops C n L f (m.setIfInBounds i true) (a.put o.dst v) → picks P md ops C n L (f + 1) m a := by
  have sel := Region.noSelect_spec hsel
  induction f with
  | zero =>
    intro m a inv _ hi hy hp
    refine ⟨List.ne_nil_of_mem hi, fun j hj => ?_⟩
    by_cases e : j = i
    · subst e; exact ⟨hin, hy.qOp ho hp⟩
    · have h1 := hL _ _ hp j (ready_mono hj e)
      exact absurd hj (tail_waits hsink hch hn inv _ i rfl hin (mem_ready.1 hi).1 j h1)
  | succ f ih =>
    intro m a inv hap hi hy hp
    refine ⟨List.ne_nil_of_mem hi, fun j hj => ?_⟩
    by_cases e : j = i
    · subst e; exact ⟨hin, hy.qOp ho hp⟩
    · have hjn : j < n := Nat.lt_of_not_le fun h => tail_waits hsink hch hn inv _ i rfl hin (mem_ready.1 hi).1 j h hj
      obtain ⟨free, oj, hoj, _⟩ := mem_ready.1 hj
      have k := qOp_put hoj (hap j oj hoj e free (not_on hi hj oj hoj)) (fun cs b => sel i o cs b ho) (fun cs b => sel j oj cs b hoj) hy (hp.2 j (ready_mono hj e)).2
      refine ⟨hjn, qOp_mono (fun a' q => ih _ a' (inv.set hj hjn) (fun x ox hx hxi hxm hxe => ?_) (ready_mono hi (Ne.symm e)) q.1 ?_) k⟩
      · refine hap x ox hx hxi ?_ hxe
        by_cases ex : j = x
        · subst ex; exact free
        · rwa [getD_set_ne true ex] at hxm
      · rw [Array.setIfInBounds_comm _ _ e]; exact q.2
/-- the head in the order of the text -/
theorem picks_text {g : Nat} {T : Act → Prop} (hsel : Region.noSelect ops = true) (hsink : Region.sinkB md ops n = true) (hch : Region.chainB md ops n = true) (hn : n < ops.size) :
    ∀ (l : List Oper) (k : Nat) (m : Array Bool) (a : Act), (∀ j, j < l.length → l[j]? = ops[k + j]?) → k + l.length = n → HeadInv md ops n m → Region.lexHead md ops g l.length k m = true → wpQuiet P ops C T l a →
      picks P md ops C n (fun m' a' => Region.seqB md ops g n m' = true ∧ T a') l.length m a := by
  intro l
  induction l with
  | nil =>
    intro k m a _ hk _ hb hq
    obtain rfl : k = n := by simpa using hk
    exact ⟨by simpa [Region.lexHead] using hb, hq⟩
  | cons o l ih =>
    intro k m a hl hk inv hb hq
    have ho : ops[k]? = some o := by simpa using (hl 0 (by simp)).symm
    rw [List.length_cons] at hk
    simp only [List.length_cons, Region.lexHead, Bool.and_eq_true] at hb
    obtain ⟨⟨hr, hf⟩, hb⟩ := hb
    have hr : k ∈ Region.ready md ops m := by simpa using hr
    obtain ⟨v, hy, hrest⟩ := yieldsIn_of_qOp ho (show qOp P ops C k (wpQuiet P ops C T l) a by unfold qOp; rw [ho]; exact hq)
    refine picks_take ho hsel hsink hch hn (by omega) (fun m' a' h => seqB_ready h.1) l.length m a inv (Region.free_spec ho hf) hr hy ?_
    exact ih (k + 1) _ _ (fun j hj => by have := hl (j + 1) (by simpa using hj); rw [Nat.add_assoc, Nat.add_comm 1 j]; simpa using this) (by omega) (inv.set hr (by omega)) hb hrest
end
/-- a region whose last operations wait for all the others, which only read or call: in the order of the text -/
theorem wp_region_qtail {P : Program} {C : World → Prop} {id : Nat} {Q : Exit → Act → World → Prop} {a : Act} {w : World} {l : List Oper} (n : Nat) (hB : Region.lexTailB .any l.toArray n = true) (hm : P.follows .mixedOrders = true) (hC : C w.drew)
    (h : wpQuiet P l.toArray C (fun a' => ∀ w', C w' → wpList P l.toArray Q (l.drop n) a' w') (l.take n) a) : (Code.region id l.toArray true).wp P Q a w := by
  simp only [Region.lexTailB, Bool.and_eq_true, decide_eq_true_eq] at hB
  obtain ⟨⟨⟨⟨hsel, hn⟩, hs⟩, hc⟩, hx⟩ := hB
  have hn' : n < l.length := by simpa using hn
  have ht : (l.take n).length = n := by rw [List.length_take]; omega
  have hd : (l.drop n).length = l.toArray.size - n := by simp
  have inv : HeadInv .any l.toArray n (Array.replicate l.toArray.size false) :=
    ⟨by simp, fun j oj _ hl => (by rw [getD_replicate_false] at hl; cases hl), fun t _ ht => getD_in (by simpa using ht) (getD_replicate_false _ _)⟩
  have H := picks_text (md := .any) (g := l.toArray.size - n) hsel hs hc hn (l.take n) 0 _ a (fun j hj => by
    rw [ht] at hj
    simp [hj]) (by omega) inv (by rw [ht]; exact hx) h
  refine wp_region_any hm ?_
  have K := any_of_picks (Q := Q) (g := l.toArray.size - n) (fun m a' w' hw' hL => by
    have := wpAny_of_seq (md := .any) (Q' := Q) (l.drop n) n m a' w' (fun j => by simp [List.getElem?_drop]) (by rw [hd]; exact hL.1) (hL.2 w' hw')
    rwa [hd] at this) _ _ _ { w with drawn := w.drawn + 1 } hC H
  rw [ht, show n + (l.toArray.size - n) = l.toArray.size by omega] at K
  exact K
/-- the same at the class of the worlds in which the call's own blocks are whole -/
theorem wp_region_own_tail {P : Program} {id : Nat} {Q : Exit → Act → World → Prop} {a : Act} {w W : World} {L : List (Nat × TypeId × Array Value)} {l : List Oper} (n : Nat) (hB : Region.lexTailB .any l.toArray n = true) (hm : P.follows .mixedOrders = true) (hX : Own w W L)
    (h : wpQuiet P l.toArray (fun W' => ∃ x : OwnW w L, W' = x.W) (fun a' => ∀ W', (∃ x : OwnW w L, W' = x.W) → wpList P l.toArray Q (l.drop n) a' W') (l.take n) a) : (Code.region id l.toArray true).wp P Q a W :=
  wp_region_qtail n hB hm ⟨⟨W.drew, hX.drew⟩, rfl⟩ h
end Go.Proofs.YtlnlaopokelggaaGreatDoor

namespace Go.Proofs.YtlnlaopokelggaaGreatDoor
open Go Go.RowKit

theorem ownw_r1 {w W : World} {b0 : Nat} {t0 : TypeId} {c0 : Array Value} {L} (_ : Own w W ((b0, t0, c0) :: L)) (x : OwnW w ((b0, t0, c0) :: L)) :
    (∀ i, x.W.cell? ⟨b0, i, none⟩ = c0[i]?) ∧ (∀ i, x.W.frozen? ⟨b0, i, none⟩ = false) ∧ b0 < x.W.heap.size := x.own.r1
theorem ownw_r2 {w W : World} {b0 b1 : Nat} {t0 t1 : TypeId} {c0 c1 : Array Value} {L} (_ : Own w W ((b0, t0, c0) :: (b1, t1, c1) :: L)) (x : OwnW w ((b0, t0, c0) :: (b1, t1, c1) :: L)) :
    ((∀ i, x.W.cell? ⟨b0, i, none⟩ = c0[i]?) ∧ (∀ i, x.W.frozen? ⟨b0, i, none⟩ = false) ∧ b0 < x.W.heap.size) ∧
    ((∀ i, x.W.cell? ⟨b1, i, none⟩ = c1[i]?) ∧ (∀ i, x.W.frozen? ⟨b1, i, none⟩ = false) ∧ b1 < x.W.heap.size) := x.own.r2
theorem ownw_r3 {w W : World} {b0 b1 b2 : Nat} {t0 t1 t2 : TypeId} {c0 c1 c2 : Array Value} {L} (_ : Own w W ((b0, t0, c0) :: (b1, t1, c1) :: (b2, t2, c2) :: L)) (x : OwnW w ((b0, t0, c0) :: (b1, t1, c1) :: (b2, t2, c2) :: L)) :
    ((∀ i, x.W.cell? ⟨b0, i, none⟩ = c0[i]?) ∧ (∀ i, x.W.frozen? ⟨b0, i, none⟩ = false) ∧ b0 < x.W.heap.size) ∧
    ((∀ i, x.W.cell? ⟨b1, i, none⟩ = c1[i]?) ∧ (∀ i, x.W.frozen? ⟨b1, i, none⟩ = false) ∧ b1 < x.W.heap.size) ∧
    ((∀ i, x.W.cell? ⟨b2, i, none⟩ = c2[i]?) ∧ (∀ i, x.W.frozen? ⟨b2, i, none⟩ = false) ∧ b2 < x.W.heap.size) := x.own.r3
theorem ownw_r4 {w W : World} {b0 b1 b2 b3 : Nat} {t0 t1 t2 t3 : TypeId} {c0 c1 c2 c3 : Array Value} {L} (_ : Own w W ((b0, t0, c0) :: (b1, t1, c1) :: (b2, t2, c2) :: (b3, t3, c3) :: L)) (x : OwnW w ((b0, t0, c0) :: (b1, t1, c1) :: (b2, t2, c2) :: (b3, t3, c3) :: L)) :
    ((∀ i, x.W.cell? ⟨b0, i, none⟩ = c0[i]?) ∧ (∀ i, x.W.frozen? ⟨b0, i, none⟩ = false) ∧ b0 < x.W.heap.size) ∧
    ((∀ i, x.W.cell? ⟨b1, i, none⟩ = c1[i]?) ∧ (∀ i, x.W.frozen? ⟨b1, i, none⟩ = false) ∧ b1 < x.W.heap.size) ∧
    ((∀ i, x.W.cell? ⟨b2, i, none⟩ = c2[i]?) ∧ (∀ i, x.W.frozen? ⟨b2, i, none⟩ = false) ∧ b2 < x.W.heap.size) ∧
    ((∀ i, x.W.cell? ⟨b3, i, none⟩ = c3[i]?) ∧ (∀ i, x.W.frozen? ⟨b3, i, none⟩ = false) ∧ b3 < x.W.heap.size) := x.own.r4
theorem ownw_old {w W : World} {L} {b o : Nat} {v : Value} (_ : Own w W L) (hb : b < w.heap.size) (hc : w.cell? ⟨b, o, none⟩ = some v) (x : OwnW w L) : x.W.cell? ⟨b, o, none⟩ = some v := (x.own.1.cell (p := ⟨b, o, none⟩) hb).trans hc
theorem ownw_ne {w W : World} {L} (h : Own w W L) : Nonempty (OwnW w L) := ⟨⟨_, h⟩⟩
set_option maxHeartbeats 2000000 in
theorem wsadd_any (x y : Int) (w : World) (hx : wideB x) (hy : wideB y) (hz : wideB (x + y)) : Calls Tryz.prog 34 #[WV x, WV y] w (RetW (.tuple #[WV (x + y), .int .i64 0]) w) := by
  have V1 := hide (fun W => wsvalid_any x W hx)
  have V2 := hide (fun W => wsvalid_any y W hy)
  have U1 := hide (fun W => wsvalue_any x W hx)
  have U2 := hide (fun W => wsvalue_any y W hy)
  have SM := hide (fun W => wssum_any x y W hx hy)
  have PL := hide (fun W => wsplaced_any (x + y) W hz)
  unfold RetW at V1 V2 U1 U2 SM PL
  clear hx hy hz
  generalize x + y = z at *
  have X := (((Own.start w).alloc #[.int .i64 (x / 1152921504606846976), .int .i64 (x % 1152921504606846976)] 80).alloc #[.int .i64 (y / 1152921504606846976), .int .i64 (y % 1152921504606846976)] 80).alloc #[.int .i64 0, .int .i64 0] 80
  simp only [World.size_alloc] at X
  unfold WV at *
  generalize x / 1152921504606846976 = x1 at *
  generalize x % 1152921504606846976 = x2 at *
  generalize y / 1152921504606846976 = y1 at *
  generalize y % 1152921504606846976 = y2 at *
  generalize z / 1152921504606846976 = z1 at *
  generalize z % 1152921504606846976 = z2 at *
  unfold WN at *
  generalize ((x.natAbs / 18446744073709551616 : Nat) : Int) = xh at *
  generalize ((x.natAbs % 18446744073709551616 : Nat) : Int) = xl at *
  generalize decide (x < 0) = xn at *
  generalize ((y.natAbs / 18446744073709551616 : Nat) : Int) = yh at *
  generalize ((y.natAbs % 18446744073709551616 : Nat) : Int) = yl at *
  generalize decide (y < 0) = yn at *
  generalize ((z.natAbs / 18446744073709551616 : Nat) : Int) = zh at *
  generalize ((z.natAbs % 18446744073709551616 : Nat) : Int) = zl at *
  generalize decide (z < 0) = zn at *
  have n1 : w.heap.size < w.heap.size + 1 + 1 := by omega
  have hr := X.r3
  go_enter Tryz.func34, Tryz.ntmps34
  go_wp2_with fail
  refine (V1.out _).mono ?_
  rintro e w1 ⟨rfl, hb⟩
  replace X := X.to hb
  clear hr hb
  have hr := X.r3
  go_wp2_with fail
  refine (V2.out _).mono ?_
  rintro e w2 ⟨rfl, hb⟩
  replace X := X.to hb
  clear hr hb
  have hr := X.r3
  go_wp2
  have NE := ownw_ne X
  have C1 := ownw_r3 X
  refine wp_region_own_tail (w := w) 8 (by kernel_rfl) (by kernel_rfl) X ?_
  simp only [List.take_succ_cons, List.take_zero, List.drop_succ_cons, List.drop_zero]
  repeat (go_big_quiet_step ((rename_i y; first | with_reducible exact own_call (U1.out _) | with_reducible exact own_call (U2.out _) | with_reducible exact own_call (SM.out _) | with_reducible exact own_call (PL.out _))))
  refine wpQuiet_nil ?_
  rintro W ⟨⟨W, HO⟩, rfl⟩
  have hr := HO.r3
  go_wp2
  refine bodyPost_ret (v := .tuple #[.agg #[.int .i64 z1, .int .i64 z2], .int .i64 0]) (by simp [results, Tryz.results34, hr, go_sem]) rfl ⟨rfl, ?_⟩
  exact below_set (below_set HO.1 (by omega) _) (by omega) _
end Go.Proofs.YtlnlaopokelggaaGreatDoor

namespace Go.Proofs.YtlnlaopokelggaaGreatDoor
open Go Go.RowKit

set_option maxHeartbeats 1000000 in
theorem wsproduct_any (a b : Int) (w : World) (h1 : -9223372036854775808 ≤ a ∧ a ≤ 9223372036854775807) (h2 : -9223372036854775808 ≤ b ∧ b ≤ 9223372036854775807) (h : wideB (a * b)) :
    Calls Tryz.prog 33 #[.int .i64 a, .int .i64 b] w (RetW (.tuple #[WV (a * b), .int .i64 0]) w) := by
  have X := (Own.start w).alloc #[.int .i64 0, .int .i64 0] 80
  have T := hide (fun W => times_any a b W h1.1 h1.2 h2.1 h2.2)
  have P := hide (fun W => wsplaced_any (a * b) W h)
  unfold RetW at P
  clear h1 h2 h
  generalize a * b = v at *
  unfold WV at *
  generalize v / 1152921504606846976 = v1 at *
  generalize v % 1152921504606846976 = v2 at *
  unfold WN at *
  generalize ((v.natAbs / 18446744073709551616 : Nat) : Int) = vh at *
  generalize ((v.natAbs % 18446744073709551616 : Nat) : Int) = vl at *
  generalize decide (v < 0) = vn at *
  go_enter Tryz.func33, Tryz.ntmps33
  go_wp2_with fail
  refine (T.out _).mono ?_
  rintro e w1 ⟨rfl, hb⟩
  replace X := X.to hb
  clear hb
  have hr := X.r1
  go_wp2_with fail
  refine (P.out _).mono ?_
  rintro e w2 ⟨rfl, hb⟩
  replace X := X.to hb
  clear hb hr
  have hr := X.r1
  go_wp2
  refine bodyPost_ret (v := .tuple #[.agg #[.int .i64 v1, .int .i64 v2], .int .i64 0]) (by simp [results, Tryz.results33, hr, go_sem]) rfl ⟨rfl, ?_⟩
  exact below_set (below_set X.1 (by omega) _) (by omega) _
set_option maxHeartbeats 1000000 in
theorem wsdivided_any (v b : Int) (u : Bool) (w : World) (h : wideB v) (hb0 : b ≠ 0) (h1 : -9223372036854775808 ≤ b ∧ b ≤ 9223372036854775807) :
    Calls Tryz.prog 136 #[WV v, .int .i64 b, .bool u] w (RetW (.tuple #[.int .i64 (i64V (quo v b u)), .int .i64 (i64E (quo v b u))]) w) := by
  have g : (b == 0) = false := beq_eq_false_iff_ne.2 hb0
  have X := (Own.start w).alloc #[.int .i64 (v / 1152921504606846976), .int .i64 (v % 1152921504606846976)] 80
  have V := hide (fun W => wsvalid_any v W h)
  have U := hide (fun W => wsvalue_any v W h)
  have Q := hide (fun W => quotient_full (v := v) hb0 u W h1.1 h1.2)
  unfold RetW at V U
  unfold QuoPost at Q
  clear h hb0 h1
  generalize i64V (quo v b u) = r1 at *
  generalize i64E (quo v b u) = r2 at *
  unfold WV at *
  generalize v / 1152921504606846976 = v1 at *
  generalize v % 1152921504606846976 = v2 at *
  unfold WN at *
  generalize ((v.natAbs / 18446744073709551616 : Nat) : Int) = vh at *
  generalize ((v.natAbs % 18446744073709551616 : Nat) : Int) = vl at *
  generalize decide (v < 0) = vn at *
  go_enter Tryz.func136, Tryz.ntmps136
  go_wp2_with fail
  refine (V.out _).mono ?_
  rintro e w1 ⟨rfl, hb⟩
  replace X := X.to hb
  clear hb
  have hr := X.r1
  go_wp2_with fail
  refine (U.out _).mono ?_
  rintro e w2 ⟨rfl, hb⟩
  replace X := X.to hb
  clear hb hr
  have hr := X.r1
  go_wp2_with fail
  refine (Q.out _).mono ?_
  rintro e w3 ⟨rfl, hb⟩
  replace X := X.to hb
  clear hb hr
  go_wp2
  go_ret2
  exact ⟨rfl, X.1⟩
set_option maxHeartbeats 1000000 in
theorem wsfloor_any (v b : Int) (w : World) (h : wideB v) (hb0 : b ≠ 0) (h1 : -9223372036854775808 ≤ b ∧ b ≤ 9223372036854775807) :
    Calls Tryz.prog 119 #[WV v, .int .i64 b] w (RetW (.tuple #[.int .i64 (i64V (dn v b)), .int .i64 (i64E (dn v b))]) w) := by
  have X := (Own.start w).alloc #[.int .i64 (v / 1152921504606846976), .int .i64 (v % 1152921504606846976)] 80
  have Q := hide (fun W => wsdivided_any v b false W h hb0 h1)
  unfold RetW at Q
  rw [show quo v b false = dn v b from rfl] at Q
  clear h hb0 h1
  generalize i64V (dn v b) = r1 at *
  generalize i64E (dn v b) = r2 at *
  unfold WV at *
  generalize v / 1152921504606846976 = v1 at *
  generalize v % 1152921504606846976 = v2 at *
  go_enter Tryz.func119, Tryz.ntmps119
  go_wp2_with fail
  refine (Q.out _).mono ?_
  rintro e w3 ⟨rfl, hb⟩
  replace X := X.to hb
  clear hb
  go_wp2
  go_ret2
  exact ⟨rfl, X.1⟩
set_option maxHeartbeats 1000000 in
theorem wsceil_any (v b : Int) (w : World) (h : wideB v) (hb0 : b ≠ 0) (h1 : -9223372036854775808 ≤ b ∧ b ≤ 9223372036854775807) :
    Calls Tryz.prog 120 #[WV v, .int .i64 b] w (RetW (.tuple #[.int .i64 (i64V (up v b)), .int .i64 (i64E (up v b))]) w) := by
  have X := (Own.start w).alloc #[.int .i64 (v / 1152921504606846976), .int .i64 (v % 1152921504606846976)] 80
  have Q := hide (fun W => wsdivided_any v b true W h hb0 h1)
  unfold RetW at Q
  rw [show quo v b true = up v b from rfl] at Q
  clear h hb0 h1
  generalize i64V (up v b) = r1 at *
  generalize i64E (up v b) = r2 at *
  unfold WV at *
  generalize v / 1152921504606846976 = v1 at *
  generalize v % 1152921504606846976 = v2 at *
  go_enter Tryz.func120, Tryz.ntmps120
  go_wp2_with fail
  refine (Q.out _).mono ?_
  rintro e w3 ⟨rfl, hb⟩
  replace X := X.to hb
  clear hb
  go_wp2
  go_ret2
  exact ⟨rfl, X.1⟩
set_option maxHeartbeats 1000000 in
theorem wsint_any (v : Int) (w : World) (h : wideB v) : Calls Tryz.prog 35 #[WV v] w (RetW (.tuple #[.int .i64 (i64V v), .int .i64 (i64E v)]) w) := by
  have X := (Own.start w).alloc #[.int .i64 (v / 1152921504606846976), .int .i64 (v % 1152921504606846976)] 80
  have V := hide (fun W => wsvalid_any v W h)
  have U := hide (fun W => wsvalue_any v W h)
  unfold RetW at V U
  have e0 : v = sgn (v.natAbs : Int) (decide (v < 0)) := by
    unfold sgn
    by_cases k : v < 0 <;> simp [k] <;> omega
  by_cases k : v.natAbs < 18446744073709551616
  · obtain ⟨m, hm⟩ : ∃ m, m = v.natAbs := ⟨_, rfl⟩
    have W1 := hide (fun W => whole_any (m : Int) (decide (v < 0)) W (by omega) (by omega))
    rw [hm, ← e0] at W1
    have eN : WN v = .agg #[.int .u64 0, .int .u64 (v.natAbs : Int), .bool (decide (v < 0))] := by
      unfold WN
      rw [Nat.div_eq_of_lt k, Nat.mod_eq_of_lt k]
      rfl
    rw [eN] at U
    clear h e0 k eN hm
    generalize i64V v = r1 at *
    generalize i64E v = r2 at *
    unfold WV at *
    generalize v / 1152921504606846976 = v1 at *
    generalize v % 1152921504606846976 = v2 at *
    generalize (v.natAbs : Int) = vl at *
    generalize decide (v < 0) = vn at *
    go_enter Tryz.func35, Tryz.ntmps35
    go_wp2_with fail
    refine (V.out _).mono ?_
    rintro e w1 ⟨rfl, hb⟩
    replace X := X.to hb
    clear hb
    have hr := X.r1
    go_wp2_with fail
    refine (U.out _).mono ?_
    rintro e w2 ⟨rfl, hb⟩
    replace X := (X.to hb).alloc #[.int .u64 0, .int .u64 vl, .bool vn] 105
    clear hb hr
    have hr := X.r2
    go_wp2_with fail
    refine (W1.out _).mono ?_
    rintro e w3 ⟨rfl, rfl⟩
    go_wp2
    go_ret2
    exact ⟨rfl, X.1⟩
  · have hB : i64B v = false := by
      cases e : i64B v with
      | false => rfl
      | true => have := i64B_iff.1 e; omega
    have E := i64_no hB
    have hh : 0 < v.natAbs / 18446744073709551616 := by omega
    have hh2 : ((v.natAbs / 18446744073709551616 : Nat) : Int) > 0 := by omega
    rw [E.1, E.2]
    clear h e0 k hB E hh
    unfold WN WV at *
    generalize v / 1152921504606846976 = v1 at *
    generalize v % 1152921504606846976 = v2 at *
    generalize ((v.natAbs / 18446744073709551616 : Nat) : Int) = vh at *
    generalize ((v.natAbs % 18446744073709551616 : Nat) : Int) = vl at *
    generalize decide (v < 0) = vn at *
    go_enter Tryz.func35, Tryz.ntmps35
    go_wp2_with fail
    refine (V.out _).mono ?_
    rintro e w1 ⟨rfl, hb⟩
    replace X := X.to hb
    clear hb
    have hr := X.r1
    go_wp2_with fail
    refine (U.out _).mono ?_
    rintro e w2 ⟨rfl, hb⟩
    replace X := (X.to hb).alloc #[.int .u64 vh, .int .u64 vl, .bool vn] 105
    clear hb hr
    have hr := X.r2
    go_wp2
    go_ret2
    exact ⟨rfl, X.1⟩
set_option maxHeartbeats 1000000 in
theorem wsof_any (n : Int) (w : World) (h1 : -9223372036854775808 ≤ n ∧ n ≤ 9223372036854775807) : Calls Tryz.prog 32 #[.int .i64 n] w (RetW (WV n) w) := by
  have X := (Own.start w).alloc #[.int .i64 0, .int .i64 0] 80
  have SZ := hide (fun W => wsize_any n W h1.1 h1.2)
  have SG := hide (fun W => signed_any 0 (n.natAbs : Int) (decide (n < 0)) W)
  have PL := hide (fun W => wsplaced_any n W ⟨by omega, by omega⟩)
  have eN : WN n = .agg #[.int .u64 0, .int .u64 (n.natAbs : Int), .bool (decide (n < 0) && ((0 : Int) != 0 || (n.natAbs : Int) != 0))] := by
    have k : n.natAbs < 18446744073709551616 := by omega
    have := WN_of (x := n) (m := n.natAbs) (b := decide (n < 0)) rfl (fun _ => rfl)
    rw [Nat.div_eq_of_lt k, Nat.mod_eq_of_lt k] at this
    exact this
  rw [eN] at PL
  unfold RetW at PL
  clear h1 eN
  unfold WV at *
  generalize n / 1152921504606846976 = v1 at *
  generalize n % 1152921504606846976 = v2 at *
  go_enter Tryz.func32, Tryz.ntmps32
  go_wp2_with fail
  refine (SZ.out _).mono ?_
  rintro e w' ⟨rfl, rfl⟩
  go_wp2_with fail
  refine (SG.out _).mono ?_
  rintro e w1 ⟨rfl, hb⟩
  replace X := X.to hb
  clear hb
  have hr := X.r1
  go_wp2_with fail
  refine (PL.out _).mono ?_
  rintro e w2 ⟨rfl, hb⟩
  replace X := (X.to hb).alloc #[.int .i64 v1, .int .i64 v2] 80
  clear hb hr
  have hr := X.r2
  go_wp2
  refine bodyPost_ret (v := .agg #[.int .i64 v1, .int .i64 v2]) (by simp [results, Tryz.results32, hr, go_sem]) rfl ⟨rfl, ?_⟩
  exact below_set (below_set X.1 (by omega) _) (by omega) _
end Go.Proofs.YtlnlaopokelggaaGreatDoor

namespace Go.Proofs.YtlnlaopokelggaaGreatDoor
open Go Go.RowKit

/-- a slice of points that reads as a list -/
def PntSl (w : World) (A : Option Addr) (l : List Pnt) : Prop :=
  l.length ≤ 9223372036854775807 ∧ (0 < l.length → ∃ b off, A = some ⟨b, off, none⟩ ∧ b < w.heap.size ∧ ∀ i (h : i < l.length), w.cell? ⟨b, off + i * 2, none⟩ = some (.int .i64 l[i].x) ∧ w.cell? ⟨b, off + i * 2 + 1, none⟩ = some (.int .i64 l[i].y))
theorem PntSl.below {w w' : World} {A : Option Addr} {l : List Pnt} (h : PntSl w A l) (hb : Below w.heap.size w w') : PntSl w' A l :=
  ⟨h.1, fun hl => by
    obtain ⟨b, off, e, hlt, hat⟩ := h.2 hl
    have k := fun (i : Nat) => hb.cell (p := ⟨b, i, none⟩) hlt
    exact ⟨b, off, e, Nat.lt_of_lt_of_le hlt hb.size, fun i hi => ⟨(k _).trans (hat i hi).1, (k _).trans (hat i hi).2⟩⟩⟩
def idxQ (p : Pnt → Bool) (l : List Pnt) : Int := match l.findIdx? p with | some i => (i : Int) | none => -1
theorem idxQ_no {p : Pnt → Bool} {l : List Pnt} (h : ∀ i (hi : i < l.length), p l[i] = false) : idxQ p l = -1 := by
  have : l.findIdx? p = none := by
    rw [List.findIdx?_eq_none_iff]
    intro x hx
    obtain ⟨i, hi, rfl⟩ := List.mem_iff_getElem.1 hx
    exact h i hi
  simp [idxQ, this]
theorem idxQ_yes {p : Pnt → Bool} {l : List Pnt} {k : Nat} (hk : k < l.length) (h : ∀ i (hi : i < l.length), i < k → p l[i] = false) (hy : p l[k] = true) : idxQ p l = k := by
  have : l.findIdx? p = some k := by
    rw [List.findIdx?_eq_some_iff_getElem]
    exact ⟨hk, hy, fun j hj => by rw [h j (by omega) hj]; simp⟩
  simp [idxQ, this]
theorem any_idxQ (p : Pnt → Bool) (l : List Pnt) : l.any p = decide (0 ≤ idxQ p l) := by
  unfold idxQ
  cases h : l.findIdx? p with
  | none =>
    rw [List.findIdx?_eq_none_iff] at h
    rw [Bool.eq_iff_iff]
    simp only [List.any_eq_true, decide_eq_true_eq]
    constructor
    · rintro ⟨x, hx, hp⟩
      rw [h x hx] at hp
      cases hp
    · intro h'
      omega
  | some i =>
    rw [List.findIdx?_eq_some_iff_getElem] at h
    obtain ⟨hi, hp, _⟩ := h
    rw [Bool.eq_iff_iff]
    simp only [List.any_eq_true, decide_eq_true_eq]
    exact ⟨fun _ => by omega, fun _ => ⟨l[i], List.getElem_mem hi, hp⟩⟩
set_option maxRecDepth 100000 in
set_option maxHeartbeats 2000000 in
theorem idxQ_any (f : Nat) (q : Pnt → Bool) (hf : ∀ (d : Pnt) (W : World), Calls Tryz.prog f #[d.val] W (RetW (.bool (q d)) W)) (hc : ∀ (d : Pnt) (w : World), (callFunc f #[d.val]).run Tryz.prog w = .ok (.enter f #[d.val]) w) (l : List Pnt) (A : Option Addr) (cap : Nat) (w : World) (hl : PntSl w A l) :
    Calls Tryz.prog 121 #[.slice A l.length cap, .func (.func f) #[] #[]] w (RetW (.int .i64 (idxQ q l)) w) := by
  have hlen : l.length ≤ 9223372036854775807 := hl.1
  have H := hide hl
  have CK := hide hf
  unfold RetW at CK
  clear hl hf
  go_enter Tryz.func121, Tryz.ntmps121
  go_wp2
  go_loopw [8] (fun v8 wr => ∃ k : Nat, k ≤ l.length ∧ v8 = .int .i64 k ∧ Hid (Below w.heap.size w wr) ∧ Hid (∀ i (hi : i < l.length), i < k → q l[i] = false)) (fun v8 _ => l.length - (intOf v8).toNat)
  case atStart => exact ⟨0, Nat.zero_le _, rfl, hide (Below.refl _ _), hide (fun _ _ h => by omega)⟩
  case round =>
    obtain ⟨k, hk, rfl, HW, hno⟩ := hrel
    by_cases hlt : k < l.length
    · obtain ⟨b, off, rfl, hbl, hat⟩ := (H.out.below HW.out).2 (by omega)
      obtain ⟨c0, c1⟩ := hat k hlt
      have CKk := hide (fun W => CK.out l[k] W)
      clear hat
      by_cases hs : q l[k] = true
      · have E := hide (idxQ_yes (p := q) hlt (fun i hi hik => hno.out i hi hik) hs)
        rw [hs] at CKk
        clear hs
        generalize l[k] = o at *
        go_wp2_with fail
        refine (CKk.out _).mono ?_
        rintro e w' ⟨rfl, hb⟩
        go_wp2
        go_ret
        exact ⟨ret_int E.out.symm, below_via HW.out HW.out.size hb⟩
      · have hs : q l[k] = false := by simpa using hs
        have hno2 := hide (fun i (hi : i < l.length) (hik : i < k + 1) => (show q l[i] = false by
          by_cases e : i = k
          · subst e; exact hs
          · exact hno.out i hi (by omega)))
        rw [hs] at CKk
        clear hs
        generalize l[k] = o at *
        go_wp2_with fail
        refine (CKk.out _).mono ?_
        rintro e w' ⟨rfl, hb⟩
        have HW2 := hide (below_via HW.out HW.out.size hb)
        clear hb
        go_wp2
        go_roundw
        case rel => exact ⟨k + 1, by omega, by go_num, HW2, hno2⟩
        case measure => simp [intOf]; omega
    · go_wp2
      go_ret
      exact ⟨ret_int (idxQ_no fun i hi => hno.out i hi (by omega)).symm, HW.out⟩
set_option maxHeartbeats 1000000 in
theorem contQ_any (f : Nat) (q : Pnt → Bool) (hf : ∀ (d : Pnt) (W : World), Calls Tryz.prog f #[d.val] W (RetW (.bool (q d)) W)) (hc : ∀ (d : Pnt) (w : World), (callFunc f #[d.val]).run Tryz.prog w = .ok (.enter f #[d.val]) w) (l : List Pnt) (A : Option Addr) (cap : Nat) (w : World) (hl : PntSl w A l) :
    Calls Tryz.prog 102 #[.slice A l.length cap, .func (.func f) #[] #[]] w (RetW (.bool (l.any q)) w) := by
  have C := hide (idxQ_any f q hf hc l A cap w hl)
  have H := hide (any_idxQ q l)
  unfold RetW at C
  clear hf hl
  go_enter Tryz.func102, Tryz.ntmps102
  go_wp2_with fail
  refine C.out.mono ?_
  rintro e w' ⟨rfl, hb⟩
  go_wp2
  go_ret
  exact ⟨ret_bool H.out.symm, hb⟩
set_option maxHeartbeats 1000000 in
theorem plall1_any (p : Pnt) (w : World) : Calls Tryz.prog 103 #[p.val] w (RetW (.bool (!inP p)) w) := by
  have X := (Own.start w).alloc #[.int .i64 p.x, .int .i64 p.y] 55
  have hr := X.r1
  have PV := hide (fun W => plvalid_any p W)
  unfold RetW at PV
  go_enter Tryz.func103, Tryz.ntmps103
  go_wp2_with fail
  refine (PV.out _).mono ?_
  rintro e w1 ⟨rfl, hb⟩
  have XB := (X.to hb).1
  clear hb hr
  go_wp2
  go_ret
  exact ⟨rfl, XB⟩
set_option maxHeartbeats 1000000 in
theorem plall_any (l : List Pnt) (A : Option Addr) (cap : Nat) (w : World) (hl : PntSl w A l) : Calls Tryz.prog 65 #[.slice A l.length cap] w (RetW (.bool (l.all inP)) w) := by
  have C := hide (contQ_any 103 (fun p => !inP p) plall1_any (fun d w => enters_of Tryz.func103 (by kernel_rfl) rfl _ w) l A cap w hl)
  have E : Hid ((!(l.any fun p => !inP p)) = l.all inP) := hide (by rw [List.any_eq_not_all_not]; simp)
  unfold RetW at C
  clear hl
  generalize (l.any fun p => !inP p) = b at *
  go_enter Tryz.func65, Tryz.ntmps65
  go_wp2_with fail
  refine C.out.mono ?_
  rintro e w' ⟨rfl, hb⟩
  go_wp2
  go_ret
  exact ⟨ret_bool E.out, hb⟩
set_option maxHeartbeats 1000000 in
theorem plsquare_any (a b : Pnt) (w : World) (ha : a.in) (hb : b.in) : Calls Tryz.prog 66 #[a.val, b.val] w (RetW (.int .i64 (sqD a b)) w) := by
  have X := ((Own.start w).alloc #[.int .i64 a.x, .int .i64 a.y] 55).alloc #[.int .i64 b.x, .int .i64 b.y] 55
  simp only [World.size_alloc] at X
  have hr := X.r2
  have XB := hide X.1
  obtain ⟨⟨m1, m2⟩, m3⟩ := sqD_bd ha hb
  obtain ⟨⟨a1, a2⟩, a3, a4⟩ := ha
  obtain ⟨⟨b1, b2⟩, b3, b4⟩ := hb
  have E : Hid (sqD a b = (a.x - b.x) * (a.x - b.x) + (a.y - b.y) * (a.y - b.y)) := hide rfl
  generalize sqD a b = t at *
  have e1 := IntWalk.i64_in (a.x - b.x) (by omega)
  have e2 := IntWalk.i64_in (a.y - b.y) (by omega)
  obtain ⟨p, hp⟩ : ∃ p, p = (a.x - b.x) * (a.x - b.x) := ⟨_, rfl⟩
  obtain ⟨q, hq⟩ : ∃ q, q = (a.y - b.y) * (a.y - b.y) := ⟨_, rfl⟩
  rw [← hp, ← hq] at E
  rw [← hp] at m1
  rw [← hq] at m2
  have w1 : IntKind.i64.wrap ((a.x - b.x) * (a.x - b.x)) = p := by rw [← hp]; exact IntWalk.i64_in _ (by omega)
  have w2 : IntKind.i64.wrap ((a.y - b.y) * (a.y - b.y)) = q := by rw [← hq]; exact IntWalk.i64_in _ (by omega)
  have w3 := IntWalk.i64_in (p + q) (by omega)
  clear hp hq X m3
  go_enter Tryz.func66, Tryz.ntmps66
  go_wp2
  go_ret
  exact ⟨by rw [E.out]; rfl, XB.out⟩
end Go.Proofs.YtlnlaopokelggaaGreatDoor

namespace Go.Proofs.YtlnlaopokelggaaGreatDoor
open Go Go.RowKit

theorem or_powW (m s : Nat) : m * 2 ^ (s + 1) ||| 2 ^ s = m * 2 ^ (s + 1) + 2 ^ s := by
  have h := Nat.two_pow_add_eq_or_of_lt (i := s + 1) (b := 2 ^ s) (Nat.pow_lt_pow_right (by omega) (by omega)) m
  rw [Nat.mul_comm (2 ^ (s + 1)) m] at h
  exact h.symm
def WRel (n : Nat) (r P : Nat) : Prop := ∃ s m : Nat, P = 2 ^ s ∧ s ≤ 60 ∧ r = m * 2 ^ s ∧ r + P ≤ 2 ^ 60 ∧ r * r ≤ n ∧ n < (r + P) * (r + P)
theorem wroot_start {n : Nat} (h1 : n ≤ 2251799813685248) : WRel n 0 1152921504606846976 := ⟨60, 0, by decide, by omega, by simp, by decide, by simp, by omega⟩
theorem wroot_round {n : Nat} {r P : Nat} (h : WRel n r P) (hP : 1 < P) : ∃ Q : Nat, P = 2 * Q ∧ 0 < Q ∧ (r ||| Q = r + Q) ∧ r + Q < 1152921504606846976 ∧ r < 1152921504606846976 ∧ Q < 1152921504606846976 ∧
    ((r + Q) * (r + Q) ≤ n → WRel n (r + Q) Q) ∧ (n < (r + Q) * (r + Q) → WRel n r Q) := by
  obtain ⟨s, m, e1, e2, e3, e4, e5, e6⟩ := h
  rcases s with _ | s
  · simp at e1; omega
  have hpow : 2 ^ (s + 1) = 2 * 2 ^ s := by rw [Nat.pow_succ, Nat.mul_comm]
  have hq : 0 < 2 ^ s := Nat.two_pow_pos s
  have ho := or_powW m s
  rw [← e3] at ho
  have e3' : r = 2 * m * 2 ^ s := by rw [e3, hpow, ← Nat.mul_assoc, Nat.mul_comm m 2]
  have e3'' : r + 2 ^ s = (2 * m + 1) * 2 ^ s := by rw [e3', Nat.add_mul]; omega
  refine ⟨2 ^ s, by omega, hq, ho, by omega, by omega, by omega, fun h => ⟨s, 2 * m + 1, rfl, by omega, e3'', by omega, h, ?_⟩, fun h => ⟨s, 2 * m, rfl, by omega, e3', by omega, e5, h⟩⟩
  rw [show r + 2 ^ s + 2 ^ s = r + P by omega]
  exact e6
theorem wroot_end {n : Nat} {r : Nat} (h : WRel n r 1) : isq (n : Int) = r := by
  obtain ⟨s, m, e1, e2, e3, e4, e5, e6⟩ := h
  refine isq_uniq (by omega) (by omega) ?_ ?_
  · exact_mod_cast e5
  · exact_mod_cast e6
set_option maxRecDepth 100000 in
set_option maxHeartbeats 2000000 in
theorem wsroot_any (n : Nat) (w : World) (h1 : n ≤ 2251799813685248) : Calls Tryz.prog 67 #[WV (n : Int)] w (RetW (.tuple #[.int .i64 (isq (n : Int)), .int .i64 0]) w) := by
  have hB : wideB (n : Int) := ⟨by omega, by omega⟩
  have X := (Own.start w).alloc #[.int .i64 ((n : Int) / 1152921504606846976), .int .i64 ((n : Int) % 1152921504606846976)] 80
  have V := hide (fun W => wsvalid_any (n : Int) W hB)
  have U := hide (fun W => wsvalue_any (n : Int) W hB)
  have eN : WN (n : Int) = .agg #[.int .u64 0, .int .u64 (n : Int), .bool false] := by
    rw [WN_nat]
    have k : n < 18446744073709551616 := by omega
    unfold Nv
    rw [Nat.div_eq_of_lt k, Nat.mod_eq_of_lt k]
    rfl
  rw [eN] at U
  have ST := hide (wroot_start h1)
  have HN := hide h1
  unfold RetW at V U
  unfold WV at *
  generalize (n : Int) / 1152921504606846976 = v1 at *
  generalize (n : Int) % 1152921504606846976 = v2 at *
  clear hB eN h1
  go_enter Tryz.func67, Tryz.ntmps67
  go_wp2_with fail
  refine (V.out _).mono ?_
  rintro e w1 ⟨rfl, hb⟩
  replace X := X.to hb
  clear hb
  have hr := X.r1
  go_wp2_with fail
  refine (U.out _).mono ?_
  rintro e w2 ⟨rfl, hb⟩
  replace X := (X.to hb).alloc #[.int .u64 0, .int .u64 (n : Int), .bool false] 105
  clear hb hr
  have hr := X.r2
  have XB := hide X.1
  clear X V U
  go_wp2
  go_loop [5, 6] (fun v5 v6 => ∃ r P : Nat, v5 = .int .u64 (r : Int) ∧ v6 = .int .u64 ((P / 2 : Nat) : Int) ∧ Hid (WRel n r P)) (fun _ v6 => (intOf v6).toNat)
  case atStart => exact ⟨0, 1152921504606846976, rfl, rfl, ST⟩
  case round =>
    obtain ⟨r, P, rfl, rfl, hrel⟩ := hrel
    by_cases hP : 1 < P
    · obtain ⟨Q, rfl, hQ, ho, b1, b2, b3, k1, k2⟩ := wroot_round hrel.out hP
      have HO := u64_or_nat ho (by omega) (by omega)
      have e2 : ((2 * Q / 2 : Nat) : Int) = (Q : Int) := by omega
      rw [e2]
      have e3 : (Q : Int).fdiv (2 ^ min (Int.toNat 1) IntKind.u64.bits) = ((Q / 2 : Nat) : Int) := by
        have e : (2 : Int) ^ min (Int.toNat 1) IntKind.u64.bits = 2 := by decide
        rw [e, Int.fdiv_eq_ediv_of_nonneg _ (by omega)]
        omega
      obtain ⟨x, hx⟩ : ∃ x, x = r + Q := ⟨_, rfl⟩
      rw [← hx] at b1 k1 k2 HO
      obtain ⟨hh, hhh⟩ : ∃ hh, hh = x * x / 18446744073709551616 := ⟨_, rfl⟩
      obtain ⟨ll, hll⟩ : ∃ ll, ll = x * x % 18446744073709551616 := ⟨_, rfl⟩
      have MU := hide (fun W => Tryz.bits_Mul64 x x (by omega) (by omega) W)
      rw [← hhh, ← hll] at MU
      have hn := HN.out
      have ways : (hh = 0 ∧ ll ≤ n ∧ WRel n x Q) ∨ (hh = 0 ∧ ¬ ll ≤ n ∧ WRel n r Q) ∨ (0 < hh ∧ WRel n r Q) := by
        rcases Nat.eq_zero_or_pos hh with h0 | h0
        · have el : ll = x * x := by omega
          by_cases hl : ll ≤ n
          · exact .inl ⟨h0, hl, k1 (by omega)⟩
          · exact .inr (.inl ⟨h0, hl, k2 (by omega)⟩)
        · exact .inr (.inr ⟨h0, k2 (by omega)⟩)
      clear hrel ho k1 k2 hP e2 hhh hll b1 b2 b3 hn hx
      have Q0 : (0 : Int) < (Q : Int) := by omega
      rcases ways with ⟨h0, hl, K⟩ | ⟨h0, hl, K⟩ | ⟨h0, K⟩
      · subst h0
        have d1 : decide (ll ≤ n) = true := decide_eq_true hl
        have HK := hide K
        clear K hl
        go_wp2_with fail
        refine (MU.out _).mono ?_
        rintro e w' ⟨rfl, rfl⟩
        go_wp2
        go_round
        case rel => exact ⟨x, Q, by go_num, by go_num, HK⟩
        case measure => simp [intOf]; omega
      · subst h0
        have d1 : decide (ll ≤ n) = false := decide_eq_false hl
        have HK := hide K
        clear K hl
        go_wp2_with fail
        refine (MU.out _).mono ?_
        rintro e w' ⟨rfl, rfl⟩
        go_wp2
        go_round
        case rel => exact ⟨r, Q, by go_num, by go_num, HK⟩
        case measure => simp [intOf]; omega
      · have d1 : ((hh : Int) == 0) = false := beq_eq_false_iff_ne.2 (by omega)
        have d2 : ¬ (hh : Int) < 0 := by omega
        have HK := hide K
        clear K
        go_wp2_with fail
        refine (MU.out _).mono ?_
        rintro e w' ⟨rfl, rfl⟩
        go_wp2
        go_round
        case rel => exact ⟨r, Q, by go_num, by go_num, HK⟩
        case measure => simp [intOf]; omega
    · have e : P = 1 := by
        obtain ⟨s, m, e1, _⟩ := hrel.out
        have := Nat.two_pow_pos s
        omega
      subst e
      have E := hide (wroot_end hrel.out)
      have b : r ≤ 1152921504606846976 := by
        obtain ⟨s, m, _, _, _, e4, _⟩ := hrel.out
        omega
      have E4 : IntKind.i64.wrap (r : Int) = (r : Int) := IntWalk.i64_in _ (by omega)
      clear hrel
      go_wp2
      go_ret2
      exact ⟨by rw [E.out]; rfl, XB.out⟩
end Go.Proofs.YtlnlaopokelggaaGreatDoor

namespace Go.Proofs.YtlnlaopokelggaaGreatDoor
open Go Go.RowKit

/-- the corners of a face, with their levels -/
def cnV (l : List Spt) (f : Fce) : Array Value := #[.int .i64 (spA l f.a).x, .int .i64 (spA l f.a).y, .int .i64 (spA l f.a).z, .int .i64 (spA l f.b).x, .int .i64 (spA l f.b).y, .int .i64 (spA l f.b).z, .int .i64 (spA l f.c).x, .int .i64 (spA l f.c).y, .int .i64 (spA l f.c).z]
theorem spA_nat {l : List Spt} {i : Int} (h : 0 ≤ i ∧ i < l.length) : ∃ k : Nat, ∃ hk : k < l.length, i = (k : Int) ∧ spA l i = l[k] := by
  refine ⟨i.toNat, by omega, by omega, ?_⟩
  have hk : i.toNat < l.length := by omega
  simp [spA, hk]
set_option maxRecDepth 100000 in
set_option maxHeartbeats 4000000 in
theorem lccorners_any (m : Msh) (a : MshA) (i : Nat) (w : World) (hm : MshSl w m a) (hi : i < m.fs.length) (hk : OkF m.ss m.fs[i]) :
    Calls Tryz.prog 148 #[m.val a, .int .i64 (i : Int)] w (RetW (.agg (cnV m.ss m.fs[i])) w) := by
  obtain ⟨A1, c1, A2, c2⟩ := a
  have hlen : m.ss.length ≤ 9223372036854775807 := hm.1.1.1
  have hlen2 : m.fs.length ≤ 9223372036854775807 := hm.2.1.1
  obtain ⟨ka, hka, ea, sa⟩ := spA_nat hk.a
  obtain ⟨kb, hkb, eb, sb⟩ := spA_nat hk.b
  obtain ⟨kc, hkc, ec, sc⟩ := spA_nat hk.c
  obtain ⟨b, off, e, hbl, hat⟩ := hm.1.2 (by omega)
  have e' : A1 = some ⟨b, off, none⟩ := e
  subst e'
  obtain ⟨b', off', e, hbl', hat'⟩ := hm.2.2 (by omega)
  have e' : A2 = some ⟨b', off', none⟩ := e
  subst e'
  obtain ⟨f0, f1, f2, f3⟩ := hat' i hi
  obtain ⟨x0, y0, z0⟩ := hat ka hka
  obtain ⟨x1, y1, z1⟩ := hat kb hkb
  obtain ⟨x2, y2, z2⟩ := hat kc hkc
  unfold cnV
  rw [sa, sb, sc]
  rw [ea] at f0
  rw [eb] at f1
  rw [ec] at f2
  have X := ((Own.start w).alloc #[.slice (some ⟨b, off, none⟩) m.ss.length c1, .slice (some ⟨b', off', none⟩) m.fs.length c2] 52).alloc #[.int .i64 0, .int .i64 0, .int .i64 0, .int .i64 0, .int .i64 0, .int .i64 0, .int .i64 0, .int .i64 0, .int .i64 0] 205
  replace X := X.alloc #[.int .i64 (ka : Int), .int .i64 (kb : Int), .int .i64 (kc : Int), .int .i64 (m.fs[i]).k] 49
  simp only [World.size_alloc] at X
  generalize m.ss[ka] = s0 at *
  generalize m.ss[kb] = s1 at *
  generalize m.ss[kc] = s2 at *
  generalize (m.fs[i]).k = fk at *
  have g0 : (0 : Int) ≤ (i : Int) := by omega
  have g1 : (i : Int) < (m.fs.length : Int) := by omega
  have a0 : (0 : Int) ≤ (ka : Int) := by omega
  have a1 : (ka : Int) < (m.ss.length : Int) := by omega
  have b0 : (0 : Int) ≤ (kb : Int) := by omega
  have b1 : (kb : Int) < (m.ss.length : Int) := by omega
  have q0 : (0 : Int) ≤ (kc : Int) := by omega
  have q1 : (kc : Int) < (m.ss.length : Int) := by omega
  clear hat hat' hm hk ea eb ec sa sb sc hka hkb hkc hi
  have n1 : ¬ (b' = w.heap.size) := by omega
  have n2 : ¬ (b' = w.heap.size + 1) := by omega
  have n3 : w.heap.size < w.heap.size + 1 + 1 := by omega
  have NE := ownw_ne X
  have C1 := ownw_r3 X
  have D0 := ownw_old X hbl x0
  have D1 := ownw_old X hbl y0
  have D2 := ownw_old X hbl z0
  have D3 := ownw_old X hbl x1
  have D4 := ownw_old X hbl y1
  have D5 := ownw_old X hbl z1
  have D6 := ownw_old X hbl x2
  have D7 := ownw_old X hbl y2
  have D8 := ownw_old X hbl z2
  go_enter Tryz.func148, Tryz.ntmps148
  go_wp2
  refine wp_region_own_tail (w := w) 19 (by kernel_rfl) (by kernel_rfl) X ?_
  simp only [List.take_succ_cons, List.take_zero, List.drop_succ_cons, List.drop_zero]
  repeat (go_big_quiet_step (fail))
  refine wpQuiet_nil ?_
  rintro W ⟨⟨W, HO⟩, rfl⟩
  have hr := HO.r3
  go_wp2
  refine bodyPost_ret (v := .agg #[.int .i64 s0.x, .int .i64 s0.y, .int .i64 s0.z, .int .i64 s1.x, .int .i64 s1.y, .int .i64 s1.z, .int .i64 s2.x, .int .i64 s2.y, .int .i64 s2.z]) (by simp [results, Tryz.results148, hr, go_sem]) rfl ⟨rfl, ?_⟩
  have HB := HO.1
  have hz := HB.size
  go_grown
set_option maxHeartbeats 1000000 in
theorem lcat_any (s : Spt) (w : World) : Calls Tryz.prog 150 #[s.val] w (RetW s.pt.val w) := by
  have X := ((Own.start w).alloc #[.int .i64 s.x, .int .i64 s.y, .int .i64 s.z] 46).alloc #[.int .i64 0, .int .i64 0] 55
  simp only [World.size_alloc] at X
  have hr := X.r2
  have XB := hide X.1
  show Calls _ _ _ _ (RetW (.agg #[.int .i64 s.x, .int .i64 s.y]) w)
  go_enter Tryz.func150, Tryz.ntmps150
  go_wp2
  exact bodyPost_ret (v := .agg #[.int .i64 s.x, .int .i64 s.y]) (by simp [results, Tryz.results150, go_sem]) rfl ⟨rfl, by have HX := XB.out; have hz := HX.size; go_grown⟩
set_option maxHeartbeats 1000000 in
theorem lcturn_any (a b c : Pnt) (w : World) (ha : a.in) (hb : b.in) (hc : c.in) : Calls Tryz.prog 149 #[a.val, b.val, c.val] w (RetW (.int .i64 (trn a b c)) w) := by
  have X := (((Own.start w).alloc #[.int .i64 a.x, .int .i64 a.y] 55).alloc #[.int .i64 b.x, .int .i64 b.y] 55).alloc #[.int .i64 c.x, .int .i64 c.y] 55
  simp only [World.size_alloc] at X
  have hr := X.r3
  have XB := hide X.1
  obtain ⟨m1, m2⟩ := trn_bd ha hb hc
  obtain ⟨⟨a1, a2⟩, a3, a4⟩ := ha
  obtain ⟨⟨b1, b2⟩, b3, b4⟩ := hb
  obtain ⟨⟨c1, c2⟩, c3, c4⟩ := hc
  have E : Hid (trn a b c = (b.x - a.x) * (c.y - a.y) - (b.y - a.y) * (c.x - a.x)) := hide rfl
  generalize trn a b c = t at *
  have e1 := IntWalk.i64_in (b.x - a.x) (by omega)
  have e2 := IntWalk.i64_in (c.y - a.y) (by omega)
  have e3 := IntWalk.i64_in (b.y - a.y) (by omega)
  have e4 := IntWalk.i64_in (c.x - a.x) (by omega)
  obtain ⟨p, hp⟩ : ∃ p, p = (b.x - a.x) * (c.y - a.y) := ⟨_, rfl⟩
  obtain ⟨q, hq⟩ : ∃ q, q = (b.y - a.y) * (c.x - a.x) := ⟨_, rfl⟩
  rw [← hp, ← hq] at E
  rw [← hp] at m1
  rw [← hq] at m2
  have w1 : IntKind.i64.wrap ((b.x - a.x) * (c.y - a.y)) = p := by rw [← hp]; exact IntWalk.i64_in _ (by omega)
  have w2 : IntKind.i64.wrap ((b.y - a.y) * (c.x - a.x)) = q := by rw [← hq]; exact IntWalk.i64_in _ (by omega)
  have w3 := IntWalk.i64_in (p - q) (by omega)
  clear hp hq X
  go_enter Tryz.func149, Tryz.ntmps149
  go_wp2
  go_ret
  exact ⟨by rw [E.out]; rfl, XB.out⟩
end Go.Proofs.YtlnlaopokelggaaGreatDoor
