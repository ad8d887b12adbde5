/- Parts of one proof, joined: Regions that draw their order, of reads and calls that leave a class of worlds, ahead of some last operations that wait for all of them: one walk in the order of the text. The program's date of a number; nothing that was there is turned. The reference's Floor by a number from 1 on. The program's text of an instant; nothing that was there is turned. (Printed by gen_ck.py.). The reference's Instant, Length and Valid of records: what each returns; nothing that was there is turned. -/
import Derived.Test.YtkjndkeboeieoaaGreatDoorPkGaugeBack4
import Derived.StillTail
import Derived.Deep.DeepCutAuto
import Derived.Deep.RegionWith
import Derived.Test.YtkjndkeboeieoaaGreatDoorPkGaugeBack3
import Derived.Test.YtkjndkeboeieoaaGreatDoorPkGaugeBack1
import Derived.Test.YtkjndkeboeieoaaGreatDoorShelf5
namespace Go.Proofs.YtkjndkeboeieoaaGreatDoor
open Go Go.RowKit

section
variable {P : Program} {ops : Array Oper} {md : Region.Mode} {C : World → Prop} {n : Nat}
/-- so many picks, all out of the head, and then L -/
def picks (P : Program) (md : Region.Mode) (ops : Array Oper) (C : World → Prop) (n : Nat) (L : Array Bool → Act → Prop) : Nat → Array Bool → Act → Prop
  | 0, m, a => L m a
  | f + 1, m, a => Region.ready md ops m ≠ [] ∧ ∀ i ∈ Region.ready md ops m, i < n ∧ qOp P ops C i (picks P md ops C n L f (m.setIfInBounds i true)) a
theorem any_of_picks {L : Array Bool → Act → Prop} {g : Nat} {Q : Exit → Act → World → Prop} (h : ∀ m a w, C w → L m a → wpAny P md ops Q g m a w) (f : Nat) : ∀ m a w, C w → picks P md ops C n L f m a → wpAny P md ops Q (f + g) m a w := by
  induction f with
  | zero => intro m a w hw hp; rw [Nat.zero_add]; exact h m a w hw hp
  | succ f ih =>
    intro m a w hw hp
    rw [Nat.add_right_comm]
    refine ⟨fun e => absurd e hp.1, fun i hi => ?_⟩
    exact wpOp_of_qOp hw (fun a' w' hw' hp' => ih _ a' w' hw' hp') (hp.2 i hi).2
/-- what no longer waits for i -/
theorem not_on {m : Array Bool} {i j : Nat} (hi : i ∈ Region.ready md ops m) (hj : j ∈ Region.ready md ops m) : ∀ o, ops[j]? = some o → ∀ e ∈ o.after, Region.binds md e = true → e.on ≠ i := by
  intro o ho e he hb eq
  obtain ⟨_, o', ho', all⟩ := mem_ready.1 hj
  obtain rfl := Option.some.inj (ho.symm.trans ho')
  have q := all e he hb
  rw [eq, getD_both (mem_ready.1 hi).1] at q
  cases q
/-- one that may come up now may be taken first -/
theorem picks_take {L : Array Bool → Act → Prop} {i : Nat} {o : Oper} {v : Value} (ho : ops[i]? = some o) (hsel : Region.noSelect ops = true) (hsink : Region.sinkB md ops n = true) (hch : Region.chainB md ops n = true) (hn : n < ops.size) (hin : i < n)
    (hL : ∀ m a, L m a → ∀ j ∈ Region.ready md ops m, n ≤ j) (f : Nat) : ∀ m a, HeadInv md ops n m →
      (∀ j oj, ops[j]? = some oj → j ≠ i → m.getD j true = false → (∀ e ∈ oj.after, Region.binds md e = true → e.on ≠ i) → o.apart ops oj = true) →
      i ∈ Region.ready md ops m → YieldsIn P ops C o v a → picks P md ops C n L f (m.setIfInBounds i true) (a.put o.dst v) → picks P md ops C n L (f + 1) m a := by
  have sel := Region.noSelect_spec hsel
  induction f with
  | zero =>
    intro m a inv _ hi hy hp
    refine ⟨List.ne_nil_of_mem hi, fun j hj => ?_⟩
    by_cases e : j = i
    · subst e; exact ⟨hin, hy.qOp ho hp⟩
    · have h1 := hL _ _ hp j (ready_mono hj e)
      exact absurd hj (tail_waits hsink hch hn inv _ i rfl hin (mem_ready.1 hi).1 j h1)
  | succ f ih =>
    intro m a inv hap hi hy hp
    refine ⟨List.ne_nil_of_mem hi, fun j hj => ?_⟩
    by_cases e : j = i
    · subst e; exact ⟨hin, hy.qOp ho hp⟩
    · have hjn : j < n := Nat.lt_of_not_le fun h => tail_waits hsink hch hn inv _ i rfl hin (mem_ready.1 hi).1 j h hj
      obtain ⟨free, oj, hoj, _⟩ := mem_ready.1 hj
      have k := qOp_put hoj (hap j oj hoj e free (not_on hi hj oj hoj)) (fun cs b => sel i o cs b ho) (fun cs b => sel j oj cs b hoj) hy (hp.2 j (ready_mono hj e)).2
      refine ⟨hjn, qOp_mono (fun a' q => ih _ a' (inv.set hj hjn) (fun x ox hx hxi hxm hxe => ?_) (ready_mono hi (Ne.symm e)) q.1 ?_) k⟩
      · refine hap x ox hx hxi ?_ hxe
        by_cases ex : j = x
        · subst ex; exact free
        · rwa [getD_set_ne true ex] at hxm
      · rw [Array.setIfInBounds_comm _ _ e]; exact q.2
/-- the head in the order of the text -/
theorem picks_text {g : Nat} {T : Act → Prop} (hsel : Region.noSelect ops = true) (hsink : Region.sinkB md ops n = true) (hch : Region.chainB md ops n = true) (hn : n < ops.size) :
    ∀ (l : List Oper) (k : Nat) (m : Array Bool) (a : Act), (∀ j, j < l.length → l[j]? = ops[k + j]?) → k + l.length = n → HeadInv md ops n m → Region.lexHead md ops g l.length k m = true → wpQuiet P ops C T l a →
      picks P md ops C n (fun m' a' => Region.seqB md ops g n m' = true ∧ T a') l.length m a := by
  intro l
  induction l with
  | nil =>
    intro k m a _ hk _ hb hq
    obtain rfl : k = n := by simpa using hk
    exact ⟨by simpa [Region.lexHead] using hb, hq⟩
  | cons o l ih =>
    intro k m a hl hk inv hb hq
    have ho : ops[k]? = some o := by simpa using (hl 0 (by simp)).symm
    rw [List.length_cons] at hk
    simp only [List.length_cons, Region.lexHead, Bool.and_eq_true] at hb
    obtain ⟨⟨hr, hf⟩, hb⟩ := hb
    have hr : k ∈ Region.ready md ops m := by simpa using hr
    obtain ⟨v, hy, hrest⟩ := yieldsIn_of_qOp ho (show qOp P ops C k (wpQuiet P ops C T l) a by unfold qOp; rw [ho]; exact hq)
    refine picks_take ho hsel hsink hch hn (by omega) (fun m' a' h => seqB_ready h.1) l.length m a inv (Region.free_spec ho hf) hr hy ?_
    exact ih (k + 1) _ _ (fun j hj => by have := hl (j + 1) (by simpa using hj); rw [Nat.add_assoc, Nat.add_comm 1 j]; simpa using this) (by omega) (inv.set hr (by omega)) hb hrest
end
/-- a region whose last operations wait for all the others, which only read or call: in the order of the text -/
theorem wp_region_qtail {P : Program} {C : World → Prop} {id : Nat} {Q : Exit → Act → World → Prop} {a : Act} {w : World} {l : List Oper} (n : Nat) (hB : Region.lexTailB .any l.toArray n = true) (hm : P.follows .mixedOrders = true) (hC : C w.drew)
    (h : wpQuiet P l.toArray C (fun a' => ∀ w', C w' → wpList P l.toArray Q (l.drop n) a' w') (l.take n) a) : (Code.region id l.toArray true).wp P Q a w := by
  simp only [Region.lexTailB, Bool.and_eq_true, decide_eq_true_eq] at hB
  obtain ⟨⟨⟨⟨hsel, hn⟩, hs⟩, hc⟩, hx⟩ := hB
  have hn' : n < l.length := by simpa using hn
  have ht : (l.take n).length = n := by rw [List.length_take]; omega
  have hd : (l.drop n).length = l.toArray.size - n := by simp
  have inv : HeadInv .any l.toArray n (Array.replicate l.toArray.size false) :=
    ⟨by simp, fun j oj _ hl => (by rw [getD_replicate_false] at hl; cases hl), fun t _ ht => getD_in (by simpa using ht) (getD_replicate_false _ _)⟩
  have H := picks_text (md := .any) (g := l.toArray.size - n) hsel hs hc hn (l.take n) 0 _ a (fun j hj => by
    rw [ht] at hj
    simp [hj]) (by omega) inv (by rw [ht]; exact hx) h
  refine wp_region_any hm ?_
  have K := any_of_picks (Q := Q) (g := l.toArray.size - n) (fun m a' w' hw' hL => by
    have := wpAny_of_seq (md := .any) (Q' := Q) (l.drop n) n m a' w' (fun j => by simp [List.getElem?_drop]) (by rw [hd]; exact hL.1) (hL.2 w' hw')
    rwa [hd] at this) _ _ _ { w with drawn := w.drawn + 1 } hC H
  rw [ht, show n + (l.toArray.size - n) = l.toArray.size by omega] at K
  exact K
/-- the same at the class of the worlds in which the call's own blocks are whole -/
theorem wp_region_own_tail {P : Program} {id : Nat} {Q : Exit → Act → World → Prop} {a : Act} {w W : World} {L : List (Nat × TypeId × Array Value)} {l : List Oper} (n : Nat) (hB : Region.lexTailB .any l.toArray n = true) (hm : P.follows .mixedOrders = true) (hX : Own w W L)
    (h : wpQuiet P l.toArray (fun W' => ∃ x : OwnW w L, W' = x.W) (fun a' => ∀ W', (∃ x : OwnW w L, W' = x.W) → wpList P l.toArray Q (l.drop n) a' W') (l.take n) a) : (Code.region id l.toArray true).wp P Q a W :=
  wp_region_qtail n hB hm ⟨⟨W.drew, hX.drew⟩, rfl⟩ h
end Go.Proofs.YtkjndkeboeieoaaGreatDoor

namespace Go.Proofs.YtkjndkeboeieoaaGreatDoor
open Go Go.RowKit

def DatePost (y m d : Nat) (er : Int) (w : World) (e : Ending) (w' : World) : Prop := e = .returned (.tuple #[.agg #[.int .i64 (y : Int), .int .i64 (m : Int), .int .i64 (d : Int)], .int .i64 er]) ∧ Below w.heap.size w w'
set_option maxRecDepth 100000 in
set_option maxHeartbeats 2000000 in
theorem dateof_no (n : Int) (w : World) (hn : n < -730119) : Calls Tryz.prog 74 #[.int .i64 n] w (DatePost 0 0 0 2 w) := by
  have X := ((Own.start w).alloc #[.int .i64 n] 3).alloc #[.int .i64 0, .int .i64 0, .int .i64 0] 96
  simp only [World.size_alloc] at X
  have hr := X.r2
  have B1 := hide (fun W => before_any 1 (by omega) (by omega) W)
  rw [show ((bfN 1 : Nat) : Int) - 730119 = -730119 from rfl] at B1
  have g1 : decide (n < -730119) = true := decide_eq_true hn
  have NE : Nonempty (OwnW w [(w.heap.size + 1, 96, #[.int .i64 0, .int .i64 0, .int .i64 0]), (w.heap.size, 3, #[.int .i64 n])]) := ⟨⟨_, X⟩⟩
  have C1 := fun x : OwnW w [(w.heap.size + 1, 96, #[.int .i64 0, .int .i64 0, .int .i64 0]), (w.heap.size, 3, #[.int .i64 n])] => x.own.r2
  have HX := hide X
  clear X hn
  go_enter Tryz.func74, Tryz.ntmps74
  go_wp2_with fail
  refine wp_region_own (w := w) (L := [(w.heap.size + 1, 96, #[.int .i64 0, .int .i64 0, .int .i64 0]), (w.heap.size, 3, #[.int .i64 n])]) (by kernel_rfl) (by kernel_rfl) HX.out ?_
  repeat (go_big_quiet_step ((rename_i y; with_reducible exact own_same (B1.out _))))
  refine wpQuiet_nil ?_
  rintro W ⟨⟨W, HO⟩, rfl⟩
  clear hr HX
  have hr := HO.r2
  go_wp2
  exact bodyPost_ret (v := .tuple #[.agg #[.int .i64 0, .int .i64 0, .int .i64 0], .int .i64 2]) (by simp [results, Tryz.results74, hr, go_sem]) rfl ⟨rfl, by have HX := HO.1; have hz := HX.size; go_grown⟩
/-- the month that is reached -/
def monS (b : Nat) (w : World) : Nat := match w.cell? ⟨b, 1, none⟩ with | some (.int _ k) => (13 - k).toNat | _ => 0
set_option maxRecDepth 100000 in
set_option maxHeartbeats 4000000 in
theorem dateof_any (n : Int) (y m d : Nat) (w : World) (hD : IsD n y m d) : Calls Tryz.prog 74 #[.int .i64 n] w (DatePost y m d 0 w) := by
  obtain ⟨hv, hn⟩ := hD
  have yr := dn_year hv
  obtain ⟨⟨y1, y2⟩, ⟨m1, m2⟩, d1, d2⟩ := hv
  have yb := bf_lt (show y + 1 ≤ 10000 by omega)
  have n0 : -730119 ≤ n ∧ n < 2921940 := by omega
  have X := ((Own.start w).alloc #[.int .i64 n] 3).alloc #[.int .i64 0, .int .i64 0, .int .i64 0] 96
  simp only [World.size_alloc] at X
  have hr := X.r2
  have B1 := hide (fun W => before_any 1 (by omega) (by omega) W)
  have B2 := hide (fun W => before_any 10000 (by omega) (by omega) W)
  have BY := hide (fun W => before_any y y1 (by omega) W)
  rw [show ((bfN 1 : Nat) : Int) - 730119 = -730119 from rfl] at B1
  rw [show ((bfN 10000 : Nat) : Int) - 730119 = 2921940 by rw [bf_10000]; rfl] at B2
  have g1 : decide (n < -730119) = false := decide_eq_false (by omega)
  have g2 : decide (2921940 ≤ n) = false := decide_eq_false (by omega)
  have YS := hide (fun W h1 h2 => years_any n w.heap.size y W h1 h2 y1 y2 (by omega) (by omega))
  have NE : Nonempty (OwnW w [(w.heap.size + 1, 96, #[.int .i64 0, .int .i64 0, .int .i64 0]), (w.heap.size, 3, #[.int .i64 n])]) := ⟨⟨_, X⟩⟩
  have C1 := fun x : OwnW w [(w.heap.size + 1, 96, #[.int .i64 0, .int .i64 0, .int .i64 0]), (w.heap.size, 3, #[.int .i64 n])] => x.own.r2
  have HX := hide X
  have HN : Hid ((dnN y m d : Int) - 730119 = n ∧ bfN y ≤ dnN y m d) := hide ⟨hn, yr.1⟩
  clear X yr hn
  go_enter Tryz.func74, Tryz.ntmps74
  go_wp2_with fail
  refine wp_region_own (w := w) (L := [(w.heap.size + 1, 96, #[.int .i64 0, .int .i64 0, .int .i64 0]), (w.heap.size, 3, #[.int .i64 n])]) (by kernel_rfl) (by kernel_rfl) HX.out ?_
  repeat (go_big_quiet_step ((rename_i y; first | with_reducible exact own_same (B1.out _) | with_reducible exact own_same (B2.out _))))
  refine wpQuiet_nil ?_
  rintro W ⟨⟨W, HO⟩, rfl⟩
  clear hr HX g1 g2 NE C1 B1 B2
  have hr := HO.r2
  go_wp2_with fail
  refine (YS.out _ hr.2.2.2 (hr.2.1 0)).mono ?_
  rintro e w1 ⟨rfl, hb⟩
  replace HO := HO.to hb
  clear hr hb YS
  have BO := hide HO.1
  have hr := HO.r2
  have YN := hide (show w.heap.size + 1 < w1.heap.size from hr.1.2.2)
  have k0 : IntKind.i64.wrap (((y - 1 : Nat) : Int) + 1) = (y : Int) := (IntWalk.i64_in _ (by omega)).trans (by omega)
  obtain ⟨r, hrr⟩ : ∃ r : Nat, (r : Int) = n - ((bfN y : Int) - 730119) + 1 := ⟨(n - ((bfN y : Int) - 730119) + 1).toNat, by have := HN.out; omega⟩
  have HR : Hid (r = cuN y (m - 1) + d) := hide (by have := HN.out; have e : dnN y m d = bfN y + cuN y (m - 1) + (d - 1) := rfl; omega)
  have s1 : IntKind.i64.wrap (n - ((bfN y : Int) - 730119)) = n - ((bfN y : Int) - 730119) := IntWalk.i64_in _ (by omega)
  have s2 : IntKind.i64.wrap (n - ((bfN y : Int) - 730119) + 1) = (r : Int) := (IntWalk.i64_in _ (by omega)).trans hrr.symm
  clear hrr
  generalize ((bfN y : Nat) : Int) - 730119 = z at *
  have HOO := hide HO
  clear HO
  go_upto_region 4 with (fail)
  go_cut [5] (fun v5 wx => ∃ g, w.heap.size + 1 < g ∧ v5 = .pointer (some ⟨g, 0, none⟩) ∧ Hid (Own w wx [(g, 96, #[.int .i64 (y : Int), .int .i64 1, .int .i64 (r : Int)]), (w.heap.size + 1, 96, #[.int .i64 0, .int .i64 0, .int .i64 0]), (w.heap.size, 3, #[.int .i64 n])]))
  case first =>
    have hr := HOO.out.r2
    go_region_held3 (fun w' => w'.cell? ⟨w.heap.size, 0, none⟩ = some (.int .i64 n)) (go_keep)
      (first
        | (go_at_call 92; ((with_reducible refine Calls.mono (BY.out _) ?_); rintro e w3 ⟨rfl, rfl⟩)))
    all_goals
      go_wp2_with fail
      go_meet
      first
        | exact ⟨_, by (first | exact YN.out | (simp; exact YN.out)), rfl, hide (HOO.out.alloc _ _)⟩
        | exact ⟨_, by (first | exact YN.out | (simp; exact YN.out)), rfl, hide (HOO.out.drew.alloc _ _)⟩
        | (trace_state; sorry)
  obtain ⟨g, hg, rfl, HX⟩ := hcut
  have hgN : ∀ (c0 c1 : Array Value), ∀ x ∈ [(w.heap.size + 1, 96, c0), (w.heap.size, 3, c1)], x.1 ≠ g := fun c0 c1 x hx => by
    simp only [List.mem_cons, List.not_mem_nil, or_false] at hx
    rcases hx with rfl | rfl
    all_goals (show (_ : Nat) ≠ _; omega)
  have GN := hide hgN
  have rb : r ≤ 400 := by
    have h12 := cuN_mono y (show m - 1 ≤ 12 by omega)
    rw [cu_12] at h12
    have := md_bd y m m1 m2
    have := HR.out
    split at h12 <;> omega
  clear hgN hr BY s1 s2 k0 HOO YN BO HN n0
  go_wp2
  go_loopw [] (fun wr => ∃ k ρ : Nat, 1 ≤ k ∧ k ≤ m ∧ ρ + cuN y (k - 1) = r ∧ Hid (Own w wr [(g, 96, #[.int .i64 (y : Int), .int .i64 (k : Int), .int .i64 (ρ : Int)]), (w.heap.size + 1, 96, #[.int .i64 0, .int .i64 0, .int .i64 0]), (w.heap.size, 3, #[.int .i64 n])])) (fun wr => monS g wr)
  case atStart => exact ⟨1, r, Nat.le_refl _, m1, by simp [cuN], HX⟩
  case round =>
    obtain ⟨k, ρ, k1, k2, kr, HO⟩ := hrel
    have cs : cuN y (k - 1 + 1) = cuN y (k - 1) + mdN y (k - 1 + 1) := rfl
    rw [show k - 1 + 1 = k by omega] at cs
    have cm := HR.out
    have M := hide (fun W => month_any y k k1 (by omega) W)
    unfold MdPost at M
    have NE : Nonempty (OwnW w [(g, 96, #[.int .i64 (y : Int), .int .i64 (k : Int), .int .i64 (ρ : Int)]), (w.heap.size + 1, 96, #[.int .i64 0, .int .i64 0, .int .i64 0]), (w.heap.size, 3, #[.int .i64 n])]) := ⟨⟨_, HO.out⟩⟩
    have C1 := fun x : OwnW w [(g, 96, #[.int .i64 (y : Int), .int .i64 (k : Int), .int .i64 (ρ : Int)]), (w.heap.size + 1, 96, #[.int .i64 0, .int .i64 0, .int .i64 0]), (w.heap.size, 3, #[.int .i64 n])] => x.own.r3
    have bk := md_bd y k k1 (by omega)
    by_cases hlt : k < m
    · have hc := cuN_mono y (show k ≤ m - 1 by omega)
      have gt : decide (mdN y k < ρ) = true := decide_eq_true (by omega)
      have S := hide (show mdN y k ≤ ρ by omega)
      have E : Hid ((ρ - mdN y k) + cuN y (k + 1 - 1) = r) := hide (by rw [show k + 1 - 1 = k by omega]; omega)
      have s1 : IntKind.i64.wrap ((ρ : Int) - (mdN y k : Int)) = ((ρ - mdN y k : Nat) : Int) := (IntWalk.i64_in _ (by omega)).trans (by omega)
      have MS : Hid (monS g wr = 13 - k) := hide (by unfold monS; rw [HO.out.r1.1 1]; show (13 - (k : Int)).toNat = 13 - k; omega)
      clear cs cm kr hc S
      generalize mdN y k = md at *
      generalize ρ - md = ρ' at *
      go_wp2_with fail
      refine wp_region_own (w := w) (L := [(g, 96, #[.int .i64 (y : Int), .int .i64 (k : Int), .int .i64 (ρ : Int)]), (w.heap.size + 1, 96, #[.int .i64 0, .int .i64 0, .int .i64 0]), (w.heap.size, 3, #[.int .i64 n])]) (by kernel_rfl) (by kernel_rfl) HO.out ?_
      repeat (go_big_quiet_step ((rename_i x; with_reducible exact own_call (M.out _))))
      refine wpQuiet_nil ?_
      rintro W ⟨⟨W, HW⟩, rfl⟩
      clear HO
      have hr := HW.r3
      have HW1 := hide HW
      clear HW
      go_wp2_with fail
      refine wp_region_own_tail (w := w) (L := [(g, 96, #[.int .i64 (y : Int), .int .i64 (k : Int), .int .i64 (ρ : Int)]), (w.heap.size + 1, 96, #[.int .i64 0, .int .i64 0, .int .i64 0]), (w.heap.size, 3, #[.int .i64 n])]) 8 (by kernel_rfl) (by kernel_rfl) HW1.out ?_
      simp only [List.take_succ_cons, List.take_zero, List.drop_succ_cons, List.drop_zero]
      repeat (go_big_quiet_step ((rename_i x; with_reducible exact own_call (M.out _))))
      refine wpQuiet_nil ?_
      rintro W2 ⟨⟨W2, HW2⟩, rfl⟩
      clear HW1 hr NE C1
      have hr := HW2.r3
      have HZ := hide ((HW2.set0 (by omega) (GN.out _ _) 2 (.int .i64 (ρ' : Int))).set0 (by omega) (GN.out _ _) 1 (.int .i64 ((k + 1 : Nat) : Int)))
      clear HW2
      go_wp2
      go_roundw
      case rel => exact ⟨k + 1, ρ', by omega, by omega, E.out, HZ⟩
      case measure =>
        have hz := HZ.out.r1.1 1
        rw [MS.out]
        unfold monS
        rw [show (k : Int) + 1 = ((k + 1 : Nat) : Int) by omega, hz]
        show (13 - ((k + 1 : Nat) : Int)).toNat < 13 - k
        omega
    · obtain rfl : k = m := by omega
      have gt : decide (mdN y k < ρ) = false := decide_eq_false (by omega)
      obtain rfl : ρ = d := by omega
      clear cs cm kr
      generalize mdN y k = md at *
      go_wp2_with fail
      refine wp_region_own (w := w) (L := [(g, 96, #[.int .i64 (y : Int), .int .i64 (k : Int), .int .i64 (ρ : Int)]), (w.heap.size + 1, 96, #[.int .i64 0, .int .i64 0, .int .i64 0]), (w.heap.size, 3, #[.int .i64 n])]) (by kernel_rfl) (by kernel_rfl) HO.out ?_
      repeat (go_big_quiet_step ((rename_i x; with_reducible exact own_call (M.out _))))
      refine wpQuiet_nil ?_
      rintro W ⟨⟨W, HW⟩, rfl⟩
      clear HO
      have hr := HW.r3
      have HB := hide HW.1
      clear HW
      go_wp2
      exact bodyPost_ret (v := .tuple #[.agg #[.int .i64 (y : Int), .int .i64 (k : Int), .int .i64 (ρ : Int)], .int .i64 0]) (by simp [results, Tryz.results74, hr, go_sem]) rfl ⟨rfl, by have HX := HB.out; have hz := HX.size; go_grown⟩
end Go.Proofs.YtkjndkeboeieoaaGreatDoor

namespace Go.Proofs.YtkjndkeboeieoaaGreatDoor
open Go.RowKit

theorem floor_of {n d q : Int} (hd : 1 ≤ d) (hq : q = n.tdiv d) : (n - q * d < 0 → n / d = q - 1) ∧ (¬ n - q * d < 0 → n / d = q) ∧ -d < n - q * d ∧ n - q * d < d := by
  have e := Int.mul_tdiv_add_tmod n d
  have r1 : n.tmod d < d := Int.tmod_lt_of_pos n (by omega)
  have r2 : -d < n.tmod d := by
    rcases Int.lt_or_le n 0 with h | h
    · have h3 := Int.tmod_lt_of_pos (-n) (show 0 < d by omega)
      rw [Int.neg_tmod] at h3
      omega
    · have := Int.tmod_nonneg d h
      omega
  rw [← hq, Int.mul_comm] at e
  have key : ∀ r p : Int, r + d * p = n → 0 ≤ r → r < d → n / d = p := fun r p h1 h2 h3 => ((Int.ediv_emod_unique (by omega)).2 ⟨h1, h2, h3⟩).1
  have c : d * q = q * d := Int.mul_comm _ _
  refine ⟨fun h => key (n - q * d + d) (q - 1) ?_ (by omega) (by omega), fun h => key (n - q * d) q (by omega) (by omega) (by omega), by omega, by omega⟩
  rw [Int.mul_sub, Int.mul_one]
  omega
set_option maxHeartbeats 1000000 in
theorem rfloor_any (n d : Int) (w : World) (hd : 1 ≤ d ∧ d ≤ 86400) (hn : -274877906944 ≤ n ∧ n ≤ 274877906944) : Calls Tryz.prog 78 #[.int .i64 n, .int .i64 d] w (fun e w' => e = .returned (.int .i64 (n / d)) ∧ w' = w) := by
  obtain ⟨q, hq⟩ : ∃ q, q = n.tdiv d := ⟨_, rfl⟩
  obtain ⟨f1, f2, f3, f4⟩ := floor_of hd.1 hq
  obtain ⟨p, hp⟩ : ∃ p, p = q * d := ⟨_, rfl⟩
  rw [← hp] at f1 f2 f3 f4
  have qb : -274877906944 - 86400 ≤ n / d ∧ n / d ≤ 274877906944 := by
    have h1 : n / d ≤ 274877906944 := by
      rcases Int.lt_or_le n 0 with h | h
      · have := Int.ediv_neg_of_neg_of_pos h (show 0 < d by omega); omega
      · have := Int.ediv_le_self d h; omega
    have h2 : -274877906944 ≤ n / d := by
      rcases Int.lt_or_le n 0 with h | h
      · refine (Int.le_ediv_iff_mul_le (by omega)).2 ?_
        have : (-274877906944 : Int) * d ≤ -274877906944 * 1 := Int.mul_le_mul_of_nonpos_left (by omega) (by omega)
        omega
      · have := Int.ediv_nonneg h (show 0 ≤ d by omega); omega
    omega
  have q5 : (d == 0) = false := beq_eq_false_iff_ne.2 (by omega)
  have q6 : ¬ d = 0 := by omega
  by_cases h : n - p < 0
  · have e := f1 h
    rw [e] at qb ⊢
    have w1 : IntKind.i64.wrap (n.tdiv d) = q := by rw [← hq]; exact IntWalk.i64_in _ (by omega)
    have w2 : IntKind.i64.wrap (q * d) = p := by rw [← hp]; exact IntWalk.i64_in _ (by omega)
    have w3 : IntKind.i64.wrap (n - p) = n - p := IntWalk.i64_in _ (by omega)
    have w4 : IntKind.i64.wrap (q - 1) = q - 1 := IntWalk.i64_in _ (by omega)
    have g : decide (n - p < 0) = true := decide_eq_true h
    clear f1 f2 f3 f4 e h hq hp qb
    go_enter Tryz.func78, Tryz.ntmps78
    go_wp2
    go_ret
    exact ⟨rfl, rfl⟩
  · have e := f2 h
    rw [e] at qb ⊢
    have w1 : IntKind.i64.wrap (n.tdiv d) = q := by rw [← hq]; exact IntWalk.i64_in _ (by omega)
    have w2 : IntKind.i64.wrap (q * d) = p := by rw [← hp]; exact IntWalk.i64_in _ (by omega)
    have w3 : IntKind.i64.wrap (n - p) = n - p := IntWalk.i64_in _ (by omega)
    have g : decide (n - p < 0) = false := decide_eq_false h
    clear f1 f2 f3 f4 e h hq hp qb
    go_enter Tryz.func78, Tryz.ntmps78
    go_wp2
    go_ret
    exact ⟨rfl, rfl⟩
end Go.Proofs.YtkjndkeboeieoaaGreatDoor

namespace Go.Proofs.YtkjndkeboeieoaaGreatDoor
open Go Go.RowKit

theorem rep_48 : ∀ c, Lib.repeatL [48] c = List.replicate c 48
  | 0 => rfl
  | c + 1 => by rw [Lib.repeatL, rep_48 c]; rfl
theorem repeatLL (c : Nat) (w : World) (hc : c ≤ 10) : Calls Tryz.prog 75 #[.string ⟨#[48]⟩, .int .i64 (c : Int)] w (RetV (strV (List.replicate c 48)) w) :=
  (Tryz.strings_Repeat ⟨#[48]⟩ c w (by omega) (by show 1 * c ≤ _; omega)).mono fun e w' ⟨he, hb⟩ => ⟨by rw [he, ← rep_48], hb⟩
set_option maxRecDepth 100000 in
set_option maxHeartbeats 2000000 in
theorem digits_any (n k : Nat) (w : World) (hn : n < 10000) (hk : (Lib.decDigits n).length ≤ k) (hk4 : k ≤ 4) (ht : TxtW w) : Calls Tryz.prog 50 #[.int .i64 (n : Int), .int .i64 (k : Int)] w (RetV (strV (List.replicate (k - (Lib.decDigits n).length) 48 ++ Lib.decDigits n)) w) := by
  have I := hide (fun W h => itoaL (n : Int) W (by omega) (by omega) h)
  rw [itoa_nat] at I
  have HT := hide ht
  clear ht
  obtain ⟨c, hc⟩ : ∃ c, c = k - (Lib.decDigits n).length := ⟨_, rfl⟩
  rw [← hc]
  have R := hide (fun W => repeatLL c W (by omega))
  have s1 : IntKind.i64.wrap ((k : Int) - ((Lib.decDigits n).length : Int)) = (c : Int) := (IntWalk.i64_in _ (by omega)).trans (by omega)
  have c0 : ¬ (c : Int) < 0 := by omega
  have cb : c ≤ 4 := by omega
  have db : (Lib.decDigits n).length ≤ 4 := by omega
  clear hc hk
  generalize Lib.decDigits n = dl at *
  obtain ⟨z, hz⟩ : ∃ z : List UInt8, List.replicate c 48 = z := ⟨_, rfl⟩
  have zl : z.length = c := by rw [← hz]; simp
  rw [hz] at R ⊢
  have e1 : (⟨z.toArray⟩ : ByteArray) ++ ⟨dl.toArray⟩ = ⟨(z ++ dl).toArray⟩ := ba_append z dl
  have m1 : ¬ 9223372036854775807 < z.length + dl.length := by omega
  clear hz zl
  generalize z ++ dl = r at *
  go_enter Tryz.func50, Tryz.ntmps50
  go_wp2_with fail
  refine (I.out _ HT.out).mono ?_
  rintro e w1 ⟨rfl, hb⟩
  have HB := hide hb
  clear hb
  go_wp2_with fail
  all_goals
    refine (R.out _).mono ?_
    rintro e w2 ⟨rfl, hb⟩
    have HB2 := hide (below_via HB.out HB.out.size hb)
    clear hb
    go_wp2
    go_ret
    exact ⟨rfl, HB2.out⟩
theorem dig2_any (n : Nat) (w : World) (hn : n < 100) (ht : TxtW w) : Calls Tryz.prog 50 #[.int .i64 (n : Int), .int .i64 2] w (RetV (strV (dg2 n)) w) := by
  have := digits_any n 2 w (by omega) (dec_len2 hn) (by omega) ht
  rw [dec_2 hn] at this
  exact this
theorem dig4_any (n : Nat) (w : World) (hn : n < 10000) (ht : TxtW w) : Calls Tryz.prog 50 #[.int .i64 (n : Int), .int .i64 4] w (RetV (strV (dg4 n)) w) := by
  have := digits_any n 4 w hn (dec_len4 hn) (by omega) ht
  rw [dec_4 hn] at this
  exact this
set_option maxRecDepth 100000 in
set_option maxHeartbeats 2000000 in
theorem hours_any (s : Nat) (w : World) (hs : s < 86400) (ht : TxtW w) : Calls Tryz.prog 51 #[.int .i64 (s : Int)] w (RetV (strV (hmT s)) w) := by
  have q1 : (s : Int).tdiv 3600 = ((s / 3600 : Nat) : Int) := tdivN s 3600
  have q2 : (s : Int).tdiv 60 = ((s / 60 : Nat) : Int) := tdivN s 60
  have q3 : ((s / 60 : Nat) : Int).tmod 60 = ((s / 60 % 60 : Nat) : Int) := tmodN (s / 60) 60
  have q4 : (s : Int).tmod 60 = ((s % 60 : Nat) : Int) := tmodN s 60
  have D1 := hide (fun W h => dig2_any (s / 3600) W (by omega) h)
  have D2 := hide (fun W h => dig2_any (s / 60 % 60) W (by omega) h)
  have D3 := hide (fun W h => dig2_any (s % 60) W (by omega) h)
  have V : Hid (hmT s = dg2 (s / 3600) ++ 58 :: (dg2 (s / 60 % 60) ++ 58 :: dg2 (s % 60))) := hide rfl
  have HT := hide ht
  have b1 : s / 3600 ≤ 86400 := by omega
  have b2 : s / 60 ≤ 86400 := by omega
  have la : (dg2 (s / 3600)).length = 2 := rfl
  have lb : (dg2 (s / 60 % 60)).length = 2 := rfl
  have lc : (dg2 (s % 60)).length = 2 := rfl
  clear ht
  generalize dg2 (s / 3600) = A at *
  generalize dg2 (s / 60 % 60) = B at *
  generalize dg2 (s % 60) = C at *
  generalize s / 60 % 60 = z2 at *
  generalize s / 60 = z3 at *
  generalize s / 3600 = z1 at *
  generalize s % 60 = z4 at *
  generalize hmT s = T at *
  obtain ⟨L1, hL1⟩ : ∃ L1, A ++ [58] = L1 := ⟨_, rfl⟩
  obtain ⟨L2, hL2⟩ : ∃ L2, L1 ++ B = L2 := ⟨_, rfl⟩
  obtain ⟨L3, hL3⟩ : ∃ L3, L2 ++ [58] = L3 := ⟨_, rfl⟩
  obtain ⟨L4, hL4⟩ : ∃ L4, L3 ++ C = L4 := ⟨_, rfl⟩
  have dL1 : (⟨A.toArray⟩ : ByteArray) ++ ⟨#[58]⟩ = ⟨L1.toArray⟩ := (ba_append A [58]).trans (by rw [hL1])
  have eL1 : L1.length = A.length + 1 := by rw [← hL1]; simp <;> omega
  have mL1 : ¬ 9223372036854775807 < A.length + 1 := by omega
  have dL2 : (⟨L1.toArray⟩ : ByteArray) ++ ⟨B.toArray⟩ = ⟨L2.toArray⟩ := (ba_append L1 B).trans (by rw [hL2])
  have eL2 : L2.length = L1.length + B.length := by rw [← hL2]; simp <;> omega
  have mL2 : ¬ 9223372036854775807 < L1.length + B.length := by omega
  have dL3 : (⟨L2.toArray⟩ : ByteArray) ++ ⟨#[58]⟩ = ⟨L3.toArray⟩ := (ba_append L2 [58]).trans (by rw [hL3])
  have eL3 : L3.length = L2.length + 1 := by rw [← hL3]; simp <;> omega
  have mL3 : ¬ 9223372036854775807 < L2.length + 1 := by omega
  have dL4 : (⟨L3.toArray⟩ : ByteArray) ++ ⟨C.toArray⟩ = ⟨L4.toArray⟩ := (ba_append L3 C).trans (by rw [hL4])
  have eL4 : L4.length = L3.length + C.length := by rw [← hL4]; simp <;> omega
  have mL4 : ¬ 9223372036854775807 < L3.length + C.length := by omega
  have FIN : Hid (T = L4) := hide (by rw [V.out, ← hL4, ← hL3, ← hL2, ← hL1]; simp)
  clear V la lb lc eL1 eL2 eL3 eL4 hL1 hL2 hL3 hL4
  go_enter Tryz.func51, Tryz.ntmps51
  go_wp2_with fail
  refine (D1.out _ HT.out).mono ?_
  rintro e w1 ⟨rfl, hb⟩
  have HB1 := hide hb
  clear hb
  go_wp2_with fail
  refine (D2.out _ (HT.out.below HB1.out)).mono ?_
  rintro e w2 ⟨rfl, hb⟩
  have HB2 := hide (below_via HB1.out HB1.out.size hb)
  clear hb
  go_wp2_with fail
  refine (D3.out _ (HT.out.below HB2.out)).mono ?_
  rintro e w3 ⟨rfl, hb⟩
  have HB3 := hide (below_via HB2.out HB2.out.size hb)
  clear hb
  go_wp2
  go_ret
  exact ⟨by rw [FIN.out]; rfl, HB3.out⟩
set_option maxHeartbeats 1000000 in
theorem cfloor_any (n : Int) (w : World) (hn : -274877906944 ≤ n ∧ n ≤ 274877906944) : Calls Tryz.prog 73 #[.int .i64 n, .int .i64 86400] w (fun e w' => e = .returned (.int .i64 (n / 86400)) ∧ w = w') := by
  obtain ⟨q, hq⟩ : ∃ q, q = n.tdiv 86400 := ⟨_, rfl⟩
  obtain ⟨r, hr⟩ : ∃ r, r = n.tmod 86400 := ⟨_, rfl⟩
  have e := Int.mul_tdiv_add_tmod n 86400
  rw [← hq, ← hr] at e
  obtain ⟨f1, f2, f3, f4⟩ := floor_of (show (1 : Int) ≤ 86400 by omega) hq
  have w1 : IntKind.i64.wrap (n.tdiv 86400) = q := by rw [← hq]; exact IntWalk.i64_in _ (by omega)
  have w2 : n.tmod 86400 = r := hr.symm
  have w3 : IntKind.i64.wrap (q - 1) = q - 1 := IntWalk.i64_in _ (by omega)
  by_cases h : r < 0
  · have e2 := f1 (by omega)
    have g : decide (r < 0) = true := decide_eq_true h
    rw [e2]
    clear f1 f2 f3 f4 e h hq hr e2 hn
    go_enter Tryz.func73, Tryz.ntmps73
    go_wp2
    go_ret
    exact ⟨rfl, rfl⟩
  · have e2 := f2 (by omega)
    have g : decide (r < 0) = false := decide_eq_false h
    rw [e2]
    clear f1 f2 f3 f4 e h hq hr e2 hn
    go_enter Tryz.func73, Tryz.ntmps73
    go_wp2
    go_ret
    exact ⟨rfl, rfl⟩
set_option maxHeartbeats 400000 in
theorem cinstant_any (t : Int) (w : World) : Calls Tryz.prog 72 #[.int .i64 t] w fun e w' => e = .returned (.bool (insB t)) ∧ w = w' := by
  have h : t < -68719476736 ∨ (-68719476736 ≤ t ∧ 68719476736 < t) ∨ (-68719476736 ≤ t ∧ t ≤ 68719476736) := by omega
  rcases h with h | ⟨h1, h2⟩ | ⟨h1, h2⟩
  all_goals
    go_enter Tryz.func72, Tryz.ntmps72
    go_wp2
    go_ret
    exact ⟨ret_bool (by unfold insB; simp <;> omega), rfl⟩
/-- the date of an instant, the seconds, and an error -/
def CSplitPost (y m d s : Nat) (er : Int) (w : World) (e : Ending) (w' : World) : Prop := e = .returned (.tuple #[.agg #[.int .i64 (y : Int), .int .i64 (m : Int), .int .i64 (d : Int)], .int .i64 (s : Int), .int .i64 er]) ∧ Below w.heap.size w w'
theorem ins_yes {t : Int} (h0 : -68719476736 ≤ t) (h1 : t ≤ 68719476736) : insB t = true := decide_eq_true ⟨h0, h1⟩
set_option maxRecDepth 100000 in
set_option maxHeartbeats 2000000 in
theorem csplit_no (t : Int) (w : World) (h0 : -68719476736 ≤ t) (h1 : t ≤ 68719476736) (hn : t / 86400 < -730119) : Calls Tryz.prog 49 #[.int .i64 t] w (CSplitPost 0 0 0 0 20 w) := by
  have I := hide (fun W => cinstant_any t W)
  rw [ins_yes h0 h1] at I
  have F := hide (fun W => cfloor_any t W (by omega))
  have DO := hide (fun W => dateof_no (t / 86400) W hn)
  unfold DatePost at DO
  have X := (Own.start w).alloc #[.int .i64 0, .int .i64 0, .int .i64 0] 96
  have hr := X.r1
  generalize t / 86400 = n at *
  go_enter Tryz.func49, Tryz.ntmps49
  go_wp2_with fail
  refine (I.out _).mono ?_
  rintro e w1 ⟨rfl, rfl⟩
  go_wp2_with fail
  refine (F.out _).mono ?_
  rintro e w1 ⟨rfl, rfl⟩
  go_wp2_with fail
  refine (DO.out _).mono ?_
  rintro e w1 ⟨rfl, hb⟩
  replace X := (X.to hb).alloc #[.int .i64 0, .int .i64 0, .int .i64 0] 96
  clear hb hr
  have hr := X.r2
  go_wp2
  exact bodyPost_ret (v := .tuple #[.agg #[.int .i64 0, .int .i64 0, .int .i64 0], .int .i64 0, .int .i64 20]) (by simp [results, Tryz.results49, hr, go_sem]) rfl ⟨rfl, by have HX := X.1; have hz := HX.size; go_grown⟩
set_option maxRecDepth 100000 in
set_option maxHeartbeats 2000000 in
theorem csplit_any (t : Int) (y m d : Nat) (w : World) (h0 : -68719476736 ≤ t) (h1 : t ≤ 68719476736) (hD : IsD (t / 86400) y m d) : Calls Tryz.prog 49 #[.int .i64 t] w (CSplitPost y m d (t % 86400).toNat 0 w) := by
  have I := hide (fun W => cinstant_any t W)
  rw [ins_yes h0 h1] at I
  have F := hide (fun W => cfloor_any t W (by omega))
  have DO := hide (fun W => dateof_any (t / 86400) y m d W hD)
  unfold DatePost at DO
  have X := (Own.start w).alloc #[.int .i64 0, .int .i64 0, .int .i64 0] 96
  have hr := X.r1
  have nb : -800000 ≤ t / 86400 ∧ t / 86400 ≤ 800000 := by omega
  have s2 : IntKind.i64.wrap (t - t / 86400 * 86400) = ((t % 86400).toNat : Int) := (IntWalk.i64_in _ (by omega)).trans (by omega)
  generalize (t % 86400).toNat = s at *
  generalize t / 86400 = n at *
  have s1 : IntKind.i64.wrap (n * 86400) = n * 86400 := IntWalk.i64_in _ (by omega)
  go_enter Tryz.func49, Tryz.ntmps49
  go_wp2_with fail
  refine (I.out _).mono ?_
  rintro e w1 ⟨rfl, rfl⟩
  go_wp2_with fail
  refine (F.out _).mono ?_
  rintro e w1 ⟨rfl, rfl⟩
  go_wp2_with fail
  refine (DO.out _).mono ?_
  rintro e w1 ⟨rfl, hb⟩
  replace X := (X.to hb).alloc #[.int .i64 (y : Int), .int .i64 (m : Int), .int .i64 (d : Int)] 96
  clear hb hr
  have hr := X.r2
  go_wp2
  exact bodyPost_ret (v := .tuple #[.agg #[.int .i64 (y : Int), .int .i64 (m : Int), .int .i64 (d : Int)], .int .i64 (s : Int), .int .i64 0]) (by simp [results, Tryz.results49, hr, go_sem]) rfl ⟨rfl, by have HX := X.1; have hz := HX.size; go_grown⟩
set_option maxRecDepth 100000 in
set_option maxHeartbeats 2000000 in
theorem cktext_no (t : Int) (w : World) (h0 : -68719476736 ≤ t) (h1 : t ≤ 68719476736) (hn : t / 86400 < -730119) : Calls Tryz.prog 23 #[.int .i64 t] w (RetV (.tuple #[strV [], .int .i64 20]) w) := by
  have S := hide (fun W => csplit_no t W h0 h1 hn)
  unfold CSplitPost at S
  go_enter Tryz.func23, Tryz.ntmps23
  go_wp2_with fail
  refine (S.out _).mono ?_
  rintro e w1 ⟨rfl, hb⟩
  have HX := hide hb
  clear hb
  go_wp2
  go_ret2
  exact ⟨rfl, HX.out.alloc HX.out.size _⟩
set_option maxRecDepth 100000 in
set_option maxHeartbeats 4000000 in
theorem cktext_any (t : Int) (y m d : Nat) (w : World) (h0 : -68719476736 ≤ t) (h1 : t ≤ 68719476736) (hD : IsD (t / 86400) y m d) (ht : TxtW w) : Calls Tryz.prog 23 #[.int .i64 t] w (RetV (.tuple #[strV (ckT y m d (t % 86400).toNat), .int .i64 0]) w) := by
  have S := hide (fun W => csplit_any t y m d W h0 h1 hD)
  unfold CSplitPost at S
  have HT := hide ht
  have sb : (t % 86400).toNat < 86400 := by omega
  obtain ⟨⟨y1, y2⟩, ⟨m1, m2⟩, d1, d2⟩ := hD.1
  have mb := md_bd y m m1 m2
  have D1 := hide (fun W h => dig4_any y W (by omega) h)
  have D2 := hide (fun W h => dig2_any m W (by omega) h)
  have D3 := hide (fun W h => dig2_any d W (by omega) h)
  have D4 := hide (fun W h => hours_any (t % 86400).toNat W sb h)
  have V : Hid (ckT y m d (t % 86400).toNat = dg4 y ++ 45 :: (dg2 m ++ 45 :: (dg2 d ++ 32 :: hmT (t % 86400).toNat))) := hide rfl
  have la : (dg4 y).length = 4 := rfl
  have lb : (dg2 m).length = 2 := rfl
  have lc : (dg2 d).length = 2 := rfl
  have ld : (hmT (t % 86400).toNat).length = 8 := rfl
  clear ht hD y1 y2 m1 m2 d1 d2 mb sb h0 h1
  generalize hmT (t % 86400).toNat = E at *
  generalize (t % 86400).toNat = s at *
  generalize ckT y m d s = T at *
  generalize dg4 y = A at *
  generalize dg2 m = B at *
  generalize dg2 d = C at *
  obtain ⟨L1, hL1⟩ : ∃ L1, A ++ [45] = L1 := ⟨_, rfl⟩
  obtain ⟨L2, hL2⟩ : ∃ L2, L1 ++ B = L2 := ⟨_, rfl⟩
  obtain ⟨L3, hL3⟩ : ∃ L3, L2 ++ [45] = L3 := ⟨_, rfl⟩
  obtain ⟨L4, hL4⟩ : ∃ L4, L3 ++ C = L4 := ⟨_, rfl⟩
  obtain ⟨L5, hL5⟩ : ∃ L5, L4 ++ [32] = L5 := ⟨_, rfl⟩
  obtain ⟨L6, hL6⟩ : ∃ L6, L5 ++ E = L6 := ⟨_, rfl⟩
  have dL1 : (⟨A.toArray⟩ : ByteArray) ++ ⟨#[45]⟩ = ⟨L1.toArray⟩ := (ba_append A [45]).trans (by rw [hL1])
  have eL1 : L1.length = A.length + 1 := by rw [← hL1]; simp <;> omega
  have mL1 : ¬ 9223372036854775807 < A.length + 1 := by omega
  have dL2 : (⟨L1.toArray⟩ : ByteArray) ++ ⟨B.toArray⟩ = ⟨L2.toArray⟩ := (ba_append L1 B).trans (by rw [hL2])
  have eL2 : L2.length = L1.length + B.length := by rw [← hL2]; simp <;> omega
  have mL2 : ¬ 9223372036854775807 < L1.length + B.length := by omega
  have dL3 : (⟨L2.toArray⟩ : ByteArray) ++ ⟨#[45]⟩ = ⟨L3.toArray⟩ := (ba_append L2 [45]).trans (by rw [hL3])
  have eL3 : L3.length = L2.length + 1 := by rw [← hL3]; simp <;> omega
  have mL3 : ¬ 9223372036854775807 < L2.length + 1 := by omega
  have dL4 : (⟨L3.toArray⟩ : ByteArray) ++ ⟨C.toArray⟩ = ⟨L4.toArray⟩ := (ba_append L3 C).trans (by rw [hL4])
  have eL4 : L4.length = L3.length + C.length := by rw [← hL4]; simp <;> omega
  have mL4 : ¬ 9223372036854775807 < L3.length + C.length := by omega
  have dL5 : (⟨L4.toArray⟩ : ByteArray) ++ ⟨#[32]⟩ = ⟨L5.toArray⟩ := (ba_append L4 [32]).trans (by rw [hL5])
  have eL5 : L5.length = L4.length + 1 := by rw [← hL5]; simp <;> omega
  have mL5 : ¬ 9223372036854775807 < L4.length + 1 := by omega
  have dL6 : (⟨L5.toArray⟩ : ByteArray) ++ ⟨E.toArray⟩ = ⟨L6.toArray⟩ := (ba_append L5 E).trans (by rw [hL6])
  have eL6 : L6.length = L5.length + E.length := by rw [← hL6]; simp <;> omega
  have mL6 : ¬ 9223372036854775807 < L5.length + E.length := by omega
  have FIN : Hid (T = L6) := hide (by rw [V.out, ← hL6, ← hL5, ← hL4, ← hL3, ← hL2, ← hL1]; simp)
  clear V la lb lc ld eL1 eL2 eL3 eL4 eL5 eL6 hL1 hL2 hL3 hL4 hL5 hL6
  go_enter Tryz.func23, Tryz.ntmps23
  go_wp2_with fail
  refine (S.out _).mono ?_
  rintro e w1 ⟨rfl, hb⟩
  have X := ((Own.start w).to hb).alloc #[.int .i64 (y : Int), .int .i64 (m : Int), .int .i64 (d : Int)] 96
  have hr := X.r1
  have NE : Nonempty (OwnW w [(w1.heap.size, 96, #[.int .i64 (y : Int), .int .i64 (m : Int), .int .i64 (d : Int)])]) := ⟨⟨_, X⟩⟩
  have C1 := fun x : OwnW w [(w1.heap.size, 96, #[.int .i64 (y : Int), .int .i64 (m : Int), .int .i64 (d : Int)])] => x.own.r1
  have K := fun x : OwnW w [(w1.heap.size, 96, #[.int .i64 (y : Int), .int .i64 (m : Int), .int .i64 (d : Int)])] => HT.out.below x.own.1
  have HX := hide X
  clear X hb
  go_wp2_with fail
  refine wp_region_own (w := w) (L := [(w1.heap.size, 96, #[.int .i64 (y : Int), .int .i64 (m : Int), .int .i64 (d : Int)])]) (by kernel_rfl) (by kernel_rfl) HX.out ?_
  repeat (go_big_quiet_step ((rename_i x; first | with_reducible exact own_call (D1.out _ (K _)) | with_reducible exact own_call (D2.out _ (K _)) | with_reducible exact own_call (D3.out _ (K _)) | with_reducible exact own_call (D4.out _ (K _)))))
  refine wpQuiet_nil ?_
  rintro W ⟨⟨W, HO⟩, rfl⟩
  have HZ := hide HO.1
  clear HO HX hr C1 K NE
  go_wp2
  go_ret2
  exact ⟨by rw [FIN.out]; rfl, HZ.out⟩
end Go.Proofs.YtkjndkeboeieoaaGreatDoor

namespace Go.Proofs.YtkjndkeboeieoaaGreatDoor
open Go.RowKit

set_option maxHeartbeats 400000 in
theorem rinstant_any (t : Int) (w : World) : Calls Tryz.prog 29 #[.int .i64 t] w fun e w' => e = .returned (.bool (insB t)) ∧ w = w' := by
  have h : t < -68719476736 ∨ (-68719476736 ≤ t ∧ 68719476736 < t) ∨ (-68719476736 ≤ t ∧ t ≤ 68719476736) := by omega
  rcases h with h | ⟨h1, h2⟩ | ⟨h1, h2⟩
  all_goals
    go_enter Tryz.func29, Tryz.ntmps29
    go_wp2
    go_ret
    exact ⟨ret_bool (by unfold insB; simp <;> omega), rfl⟩
def lenS (t : Int) : Bool := decide (1 ≤ t ∧ t ≤ 86400)
set_option maxHeartbeats 400000 in
theorem rlength_any (t : Int) (w : World) : Calls Tryz.prog 30 #[.int .i64 t] w fun e w' => e = .returned (.bool (lenS t)) ∧ w = w' := by
  have h : t < 1 ∨ (1 ≤ t ∧ 86400 < t) ∨ (1 ≤ t ∧ t ≤ 86400) := by omega
  rcases h with h | ⟨h1, h2⟩ | ⟨h1, h2⟩
  all_goals
    go_enter Tryz.func30, Tryz.ntmps30
    go_wp2
    go_ret
    exact ⟨ret_bool (by unfold lenS; simp <;> omega), rfl⟩
theorem okD_no {l : List Int} {i : Nat} (hi : i < l.length) (h : ¬ (-1 ≤ l.getD i 0 ∧ l.getD i 0 ≤ 4194304)) : okD l = false := by
  rcases Bool.eq_false_or_eq_true (okD l) with k | k
  · exact absurd (okD_iff.1 k i hi) h
  · exact k
set_option maxHeartbeats 4000000 in
theorem rfvalid17_any (s : Ser) (a : SerA) (w : World) (hs : SerSl w s a) : Calls Tryz.prog 8 #[s.val a] w (BPost (vS s) w) := by
  obtain ⟨fr, st, l⟩ := s
  obtain ⟨A, c⟩ := a
  have X := (Own.start w).alloc #[.int .i64 fr, .int .i64 st, .slice A l.length c] 24
  have hlen : l.length ≤ 9223372036854775807 := hs.1.1.1
  have IN := hide (fun t W => rinstant_any t W)
  have LE := hide (fun t W => rlength_any t W)
  have hr := X.r1
  have n0 : (0 : Int) ≤ (l.length : Int) := by omega
  have HS := hide hs
  clear hs
  show Calls Tryz.prog 8 #[.agg #[.int .i64 fr, .int .i64 st, .slice A l.length c]] w _
  have t : insB fr = false ∨ (insB fr = true ∧ lenS st = false) ∨ (insB fr = true ∧ lenS st = true ∧ 10000 < l.length) ∨ (insB fr = true ∧ lenS st = true ∧ l.length ≤ 10000) := by
    cases insB fr <;> cases lenS st <;> simp <;> omega
  rcases t with t | ⟨t, t1⟩ | ⟨t, t1, t3⟩ | ⟨t, t1, t3⟩
  · have V := hide (show vS ⟨fr, st, l⟩ = false by simp [vS, t])
    go_enter Tryz.func8, Tryz.ntmps8
    go_wp2_with fail
    refine (IN.out _ _).mono ?_
    rintro e w1 ⟨rfl, rfl⟩
    rw [t]
    go_wp2
    go_ret
    exact BPost.mk V.out X.1
  · have V := hide (show vS ⟨fr, st, l⟩ = false by unfold vS; rw [show decide (1 ≤ st ∧ st ≤ 86400) = false from t1]; simp)
    go_enter Tryz.func8, Tryz.ntmps8
    go_wp2_with fail
    refine (IN.out _ _).mono ?_
    rintro e w1 ⟨rfl, rfl⟩
    rw [t]
    go_wp2_with fail
    refine (LE.out _ _).mono ?_
    rintro e w1 ⟨rfl, rfl⟩
    rw [t1]
    go_wp2
    go_ret
    exact BPost.mk V.out X.1
  · have V := hide (show vS ⟨fr, st, l⟩ = false by unfold vS; rw [show decide (l.length ≤ 10000) = false from decide_eq_false (by omega)]; simp)
    have t3' : (10000 : Int) < (l.length : Int) := by omega
    clear t3
    go_enter Tryz.func8, Tryz.ntmps8
    go_wp2_with fail
    refine (IN.out _ _).mono ?_
    rintro e w1 ⟨rfl, rfl⟩
    rw [t]
    go_wp2_with fail
    refine (LE.out _ _).mono ?_
    rintro e w1 ⟨rfl, rfl⟩
    rw [t1]
    go_wp2
    go_ret
    exact BPost.mk V.out X.1
  · have tf := of_decide_eq_true t
    have ts := of_decide_eq_true t1
    have b1 : 0 ≤ st * (l.length : Int) := Int.mul_nonneg (by omega) n0
    have b2 : st * (l.length : Int) ≤ 86400 * 10000 := Int.mul_le_mul ts.2 (by omega) n0 (by omega)
    have s1 := IntWalk.i64_in (st * (l.length : Int)) (by omega)
    have s2 := IntWalk.i64_in (fr + st * (l.length : Int)) (by omega)
    have V := hide (show vS ⟨fr, st, l⟩ = (insB (fr + st * l.length) && okD l) by unfold vS; rw [t, show decide (1 ≤ st ∧ st ≤ 86400) = true from t1, show decide (l.length ≤ 10000) = true from decide_eq_true t3]; simp)
    have t3' : ¬ (10000 : Int) < (l.length : Int) := by omega
    have t4 : decide (10000 < l.length) = false := decide_eq_false (by omega)
    have HT3 := hide t3
    clear t3 tf ts b1 b2
    generalize hp : st * (l.length : Int) = p at *
    generalize hq : fr + p = q at *
    rcases Bool.eq_false_or_eq_true (insB q) with u | u
    · go_enter Tryz.func8, Tryz.ntmps8
      go_wp2_with fail
      refine (IN.out _ _).mono ?_
      rintro e w1 ⟨rfl, rfl⟩
      rw [t]
      go_wp2_with fail
      refine (LE.out _ _).mono ?_
      rintro e w1 ⟨rfl, rfl⟩
      rw [t1]
      go_wp2_with fail
      refine (IN.out _ _).mono ?_
      rintro e w1 ⟨rfl, rfl⟩
      rw [u]
      go_wp2
      have VU := hide (show vS ⟨fr, st, l⟩ = okD l from V.out.trans (by rw [u]; rfl))
      have HX := hide X.1
      have HC := hide (fun (i : Nat) (hi : i < l.length) => by
        obtain ⟨b, off, e, hbl, hat⟩ := HS.out.1.atg (show 0 < l.length by omega)
        exact (⟨b, off, e, hbl, (X.1.cell (p := ⟨b, off + i, none⟩) hbl).trans (hat i hi)⟩ : ∃ b off, A = some ⟨b, off, none⟩ ∧ b < w.heap.size ∧ (w.alloc (.cells #[.int .i64 fr, .int .i64 st, .slice A l.length c] 24)).cell? ⟨b, off + i, none⟩ = some (.int .i64 (l.getD i 0))))
      go_loop [3] (fun v => ∃ k : Nat, k ≤ l.length ∧ v = .int .i64 (k : Int) ∧ Hid (∀ i, i < k → -1 ≤ l.getD i 0 ∧ l.getD i 0 ≤ 4194304)) (fun v => l.length - (intOf v).toNat)
      case atStart => exact ⟨0, Nat.zero_le _, rfl, hide (fun _ h => by omega)⟩
      case round =>
        obtain ⟨k, hk, rfl, hno⟩ := hrel
        by_cases hlt : k < l.length
        · obtain ⟨b, off, rfl, hbl, c0⟩ := HC.out k hlt
          have NO := hide (@okD_no l k hlt)
          have STEP := hide (fun (h : -1 ≤ l.getD k 0 ∧ l.getD k 0 ≤ 4194304) i (hi : i < k + 1) => (by
            by_cases e : i = k
            · subst e; exact h
            · exact hno.out i (by omega) : -1 ≤ l.getD i 0 ∧ l.getD i 0 ≤ 4194304))
          generalize l.getD k 0 = d at *
          have z : d < -1 ∨ (-1 ≤ d ∧ 4194304 < d) ∨ (-1 ≤ d ∧ d ≤ 4194304) := by omega
          rcases z with z | ⟨z1, z2⟩ | ⟨z1, z2⟩
          · have E := hide (NO.out (by omega))
            go_wp2
            go_ret
            exact BPost.mk (VU.out.trans E.out) HX.out
          · have E := hide (NO.out (by omega))
            go_wp2
            go_ret
            exact BPost.mk (VU.out.trans E.out) HX.out
          · have E := hide (STEP.out ⟨z1, z2⟩)
            go_wp2
            go_round
            case rel => exact ⟨k + 1, by omega, by go_num, E⟩
            case measure => simp [intOf]; omega
        · have E := hide (okD_iff.2 (fun i hi => hno.out i (by omega)))
          go_wp2
          go_ret
          exact BPost.mk (VU.out.trans E.out) HX.out
    · go_enter Tryz.func8, Tryz.ntmps8
      go_wp2_with fail
      refine (IN.out _ _).mono ?_
      rintro e w1 ⟨rfl, rfl⟩
      rw [t]
      go_wp2_with fail
      refine (LE.out _ _).mono ?_
      rintro e w1 ⟨rfl, rfl⟩
      rw [t1]
      go_wp2_with fail
      refine (IN.out _ _).mono ?_
      rintro e w1 ⟨rfl, rfl⟩
      rw [u]
      go_wp2
      go_ret
      exact BPost.mk (V.out.trans (by rw [u]; rfl)) X.1
end Go.Proofs.YtkjndkeboeieoaaGreatDoor
