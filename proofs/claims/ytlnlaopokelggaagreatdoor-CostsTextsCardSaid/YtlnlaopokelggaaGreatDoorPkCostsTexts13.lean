/- Parts of one proof, joined: Rows of the call's own that hold pairs of integers; the points of a line in 16 parts; counted: what each returns; nothing that was there is turned. The levels of the ground along a line: what levels and Levels return at a valid surface and line; nothing that was there is turned. Present values, said of integers: later costs less; and a lower or wider trench is greater. The program's Distance of points, between, and the ways out of Trench: what each returns; nothing that was there is turned (printed by gen_tr.py). What a name is, said of lists of bytes: letters, digits, how many bytes at the beginning are those of a word. -/
import Derived.Test.YtlnlaopokelggaaGreatDoorPkCostsTexts12
import Derived.Test.YtlnlaopokelggaaGreatDoorPkCostsTexts8
import Derived.Test.YtlnlaopokelggaaGreatDoorPkCostsTexts3
import Derived.Test.YtlnlaopokelggaaGreatDoorPkCostsTexts2
namespace Go.Proofs.YtlnlaopokelggaaGreatDoor
open Go Go.RowKit

section
variable {α : Type} (f g : α → Int)
def flV : List α → List Value
  | [] => []
  | s :: l => .int .i64 (f s) :: .int .i64 (g s) :: flV l
theorem flV_length : ∀ l : List α, (flV f g l).length = l.length * 2
  | [] => rfl
  | s :: l => by simp only [flV, List.length_cons, flV_length l]; omega
theorem flV_append : ∀ (l m : List α), flV f g (l ++ m) = flV f g l ++ flV f g m
  | [], _ => rfl
  | x :: l, m => by simp only [flV, List.cons_append, flV_append l m]
theorem flV_at : ∀ (l : List α) (i : Nat) (h : i < l.length), (flV f g l)[i * 2]? = some (.int .i64 (f l[i])) ∧ (flV f g l)[i * 2 + 1]? = some (.int .i64 (g l[i]))
  | s :: l, 0, _ => by simp [flV]
  | s :: l, i + 1, h => by
    have k := flV_at l i (by simpa using h)
    have e1 : (i + 1) * 2 = (i * 2 + 1) + 1 := by omega
    have e2 : (i + 1) * 2 + 1 = (i * 2 + 1 + 1) + 1 := by omega
    constructor
    · rw [e1]; simpa [flV] using k.1
    · rw [e2]; simpa [flV] using k.2
theorem row_pairs {w : World} {base : Nat} {e : TypeId} {v : Value} {n : Nat} {l : List α} (h : w.ownsRow base e 2 v n (flV f g l)) (hl : 0 < l.length) : ∃ b cap, v = .slice (some ⟨b, 0, none⟩) l.length cap ∧ base ≤ b ∧ b < w.heap.size ∧
    ∀ i (h : i < l.length), w.cell? ⟨b, i * 2, none⟩ = some (.int .i64 (f l[i])) ∧ w.cell? ⟨b, i * 2 + 1, none⟩ = some (.int .i64 (g l[i])) := by
  have hn : l.length = n := by have := h.1; rw [flV_length] at this; omega
  subst hn
  obtain ⟨b, cap, hv, hb, hlt⟩ := h.form hl
  subst hv
  refine ⟨b, cap, rfl, hb, hlt, fun i hi => ?_⟩
  obtain ⟨k1, k2⟩ := flV_at f g l i hi
  exact ⟨(h.cellAt (i * 2) (by omega)).trans k1, (h.cellAt (i * 2 + 1) (by omega)).trans k2⟩
end
theorem point_info48 : (Tryz.prog.info? 55).map (fun i => (i.zero, i.size, i.bytes)) = some (some (.agg #[.int .i64 0, .int .i64 0]), 2, 16) := by kernel_rfl
theorem span_info48 : (Tryz.prog.info? 40).map (fun i => (i.zero, i.size, i.bytes)) = some (some (.agg #[.int .i64 0, .int .i64 0]), 2, 16) := by kernel_rfl
set_option maxHeartbeats 1000000 in
theorem tslev1_any (d : Int) (w : World) : Calls Tryz.prog 116 #[.int .i64 d] w fun e w' => e = .returned (.bool (decide (d < -4194304) || decide (4194304 < d))) ∧ w = w' := by
  have ways : decide (d < -4194304) = true ∨ (decide (d < -4194304) = false) := by cases decide (d < -4194304) <;> simp
  rcases ways with q1 | q1
  all_goals
    rw [q1]
    go_enter Tryz.func116, Tryz.ntmps116
    go_wp2
    go_ret
    exact ⟨ret_bool (by simp), rfl⟩
set_option maxHeartbeats 1000000 in
theorem tslevel_nil (w : World) : Calls Tryz.prog 99 #[.slice none 0 0] w fun e w' => e = .returned (.bool true) ∧ w = w' := by
  have C := hide (contI_any 116 (fun d => decide (d < -4194304) || decide (4194304 < d)) tslev1_any (fun d w => enters_of Tryz.func116 (by kernel_rfl) rfl _ w) [] none 0 w (IntSl.nil w none))
  go_enter Tryz.func99, Tryz.ntmps99
  go_wp2_with fail
  refine C.out.mono ?_
  rintro e w' ⟨rfl, rfl⟩
  go_wp2
  go_ret
  exact ⟨rfl, rfl⟩
set_option maxHeartbeats 2000000 in
theorem tscounted_any (m : Msh) (a : MshA) (bm : Nat) (p q : Pnt) (w : World) (hB : Blk w bm 52 (m.cells a)) (hm : MshSl w m a) (ht : Lib.TabIs Tryz.prog w "internal/strconv.uint64pow10" .u64 Lib.pow10Tab) (hv : vM m = true) (hp : p.in) (hq : q.in) (hne : p ≠ q) :
    Calls Tryz.prog 63 #[.pointer (some ⟨bm, 0, none⟩), p.val, q.val, .int .i64 16, .slice none 0 0] w (RetW (.int .i64 0) w) := by
  have LN := hide (fun W h1 h2 h3 => tsline_any m a bm p q W h1 h2 h3 hv hp hq hne)
  have LV := hide tslevel_nil
  unfold RetW at LN
  have HM := hide hm
  have HT := hide ht
  have HB := hide hB
  have X := ((Own.start w).alloc #[.int .i64 p.x, .int .i64 p.y] 55).alloc #[.int .i64 q.x, .int .i64 q.y] 55
  simp only [World.size_alloc] at X
  have hr := X.r2
  clear hm ht hv hp hq hne hB
  go_enter Tryz.func63, Tryz.ntmps63
  go_wp2_with fail
  refine (LN.out _ (HB.out.below X.1 HB.out.lt) (HM.out.below X.1) (tab_below HT.out X.1)).mono ?_
  rintro e w1 ⟨rfl, hb⟩
  replace X := X.to hb
  clear hr hb
  go_wp2_with fail
  refine (LV.out _).mono ?_
  rintro e w' ⟨rfl, rfl⟩
  go_wp2
  go_ret
  exact ⟨rfl, X.1⟩
/-- the points of a line -/
def ptL (a b : Pnt) (n : Nat) : List Pnt := (List.range n).map (ptA a b)
theorem ptL_succ (a b : Pnt) (n : Nat) : ptL a b (n + 1) = ptL a b n ++ [ptA a b n] := by simp [ptL, List.range_succ]
theorem ptL_len (a b : Pnt) (n : Nat) : (ptL a b n).length = n := by simp [ptL]
/-- a list of points in memory of the call's own -/
def PtsPost (l : List Pnt) (w : World) (e : Ending) (w' : World) : Prop := Below w.heap.size w w' ∧ ∃ (A : Option Addr) (cap : Nat), e = .returned (.slice A l.length cap) ∧ PntSl w' A l
set_option maxRecDepth 100000 in
set_option maxHeartbeats 4000000 in
theorem tspoints_any (a b : Pnt) (w : World) (ha : a.in) (hb : b.in) : Calls Tryz.prog 100 #[a.val, b.val, .int .i64 16] w (PtsPost (ptL a b 17) w) := by
  obtain ⟨i0, hi0, hz0, hz1, hz2⟩ := info_parts point_info48
  have X := ((Own.start w).alloc #[.int .i64 a.x, .int .i64 a.y] 55).alloc #[.int .i64 b.x, .int .i64 b.y] 55
  simp only [World.size_alloc] at X
  have hr := X.r2
  have s17 : IntKind.i64.wrap (16 + 1) = 17 := by decide
  have MK : ∀ W, (Instr.makeSlice 159 (.int .i64 0) (.int .i64 17)).run Tryz.prog W = .ok (.slice (some ⟨W.heap.size, 0, none⟩) 0 17) (W.alloc (.cells (madeCells (Value.agg #[.int .i64 0, .int .i64 0]).cells (17 * i0.size)) 55)) := fun W =>
    run_make_rowN 159 55 i0 (.agg #[.int .i64 0, .int .i64 0]) Tryz.underlying159 hi0 hz0 .i64 .i64 0 17 (by omega) (by rw [hz2]; omega) (by omega) W
  have MS : (madeCells (Value.agg #[.int .i64 0, .int .i64 0]).cells (17 * i0.size)).size = 17 * 2 := by rw [size_madeCells, hz1]
  generalize madeCells (Value.agg #[.int .i64 0, .int .i64 0]).cells (17 * i0.size) = mc at *
  have HA := hide ha
  have HB := hide hb
  have XB := hide X.1
  have HR := hide hr
  clear ha hb
  go_enter Tryz.func100, Tryz.ntmps100
  go_wp2
  have hx : w.heap.size + 1 < ((w.alloc (.cells #[.int .i64 a.x, .int .i64 a.y] 55)).alloc (.cells #[.int .i64 b.x, .int .i64 b.y] 55)).heap.size := by simp
  have hsz : ((w.alloc (.cells #[.int .i64 a.x, .int .i64 a.y] 55)).alloc (.cells #[.int .i64 b.x, .int .i64 b.y] 55)).heap.size = w.heap.size + 1 + 1 := by simp
  have RW := hide (World.ownsRow_made (base := ((w.alloc (.cells #[.int .i64 a.x, .int .i64 a.y] 55)).alloc (.cells #[.int .i64 b.x, .int .i64 b.y] 55)).heap.size) (e := 55) (size := 2) ((w.alloc (.cells #[.int .i64 a.x, .int .i64 a.y] 55)).alloc (.cells #[.int .i64 b.x, .int .i64 b.y] 55)) mc 17 (Nat.le_refl _) (by unfold maxLen; omega) MS)
  have BW := hide ((Below.refl ((w.alloc (.cells #[.int .i64 a.x, .int .i64 a.y] 55)).alloc (.cells #[.int .i64 b.x, .int .i64 b.y] 55)).heap.size ((w.alloc (.cells #[.int .i64 a.x, .int .i64 a.y] 55)).alloc (.cells #[.int .i64 b.x, .int .i64 b.y] 55))).alloc (Nat.le_refl _) (.cells mc 55))
  clear MK MS X hr
  generalize (w.alloc (.cells #[.int .i64 a.x, .int .i64 a.y] 55)).alloc (.cells #[.int .i64 b.x, .int .i64 b.y] 55) = W0 at *
  have XH := hide (And.intro BW.out RW.out)
  clear BW RW
  go_loopw [7, 14] (fun v7 v14 wr => ∃ k : Nat, k ≤ 17 ∧ v14 = .int .i64 (k : Int) ∧ Hid (Below W0.heap.size W0 wr ∧ wr.ownsRow W0.heap.size 55 2 v7 k (flV Pnt.x Pnt.y (ptL a b k)))) (fun _ v14 _ => 17 - (intOf v14).toNat)
  case atStart => exact ⟨0, by omega, rfl, hide ⟨XH.out.1, by have h := XH.out.2; rw [hsz] at h ⊢; exact h⟩⟩
  case round =>
    clear XH
    obtain ⟨k, hk, rfl, HY⟩ := hrel
    by_cases hlt : k < 17
    · have g1 : decide (k < 17) = true := decide_eq_true hlt
      have kk : k ≤ 16 := by omega
      obtain ⟨p1, p2⟩ := ptA_bd HA.out.1 HB.out.1 kk
      obtain ⟨q1, q2⟩ := ptA_bd HA.out.2 HB.out.2 kk
      obtain ⟨⟨a1, a2⟩, a3, a4⟩ := HA.out
      obtain ⟨⟨b1, b2⟩, b3, b4⟩ := HB.out
      have e1 := IntWalk.i64_in (b.x - a.x) (by omega)
      have e2 := IntWalk.i64_in (b.y - a.y) (by omega)
      obtain ⟨u, hu⟩ : ∃ u, u = (b.x - a.x) * (k : Int) := ⟨_, rfl⟩
      obtain ⟨v, hv⟩ : ∃ v, v = (b.y - a.y) * (k : Int) := ⟨_, rfl⟩
      have EP : Hid (ptL a b (k + 1) = ptL a b k ++ [⟨a.x + u / 16, a.y + v / 16⟩]) := hide (by rw [ptL_succ, hu, hv]; rfl)
      have EL := hide (ptL_len a b k)
      rw [← hu] at p1 p2
      rw [← hv] at q1 q2
      have w1 : IntKind.i64.wrap ((b.x - a.x) * (k : Int)) = u := by rw [← hu]; exact IntWalk.i64_in _ (by omega)
      have w2 : IntKind.i64.wrap ((b.y - a.y) * (k : Int)) = v := by rw [← hv]; exact IntWalk.i64_in _ (by omega)
      have F1 := hide (fun W => tsfloor_any u W (by omega))
      have F2 := hide (fun W => tsfloor_any v W (by omega))
      have w3 := IntWalk.i64_in (a.x + u / 16) (by omega)
      have w4 := IntWalk.i64_in (a.y + v / 16) (by omega)
      clear hu hv p1 q1 p2 q2 a1 a2 a3 a4 b1 b2 b3 b4 kk
      generalize ptL a b k = L at *
      generalize u / 16 = u2 at *
      generalize v / 16 = v2 at *
      have CF := hide (fun W (h : Below W0.heap.size W0 W) => And.intro ((h.cell (p := ⟨w.heap.size, 0, none⟩) (by show w.heap.size < W0.heap.size; omega)).trans (HR.out.2.1 0)) (And.intro ((h.cell (p := ⟨w.heap.size, 1, none⟩) (by show w.heap.size < W0.heap.size; omega)).trans (HR.out.2.1 1))
        (And.intro ((h.cell (p := ⟨w.heap.size + 1, 0, none⟩) (by show w.heap.size + 1 < W0.heap.size; omega)).trans (HR.out.1.1 0)) ((h.cell (p := ⟨w.heap.size + 1, 1, none⟩) (by show w.heap.size + 1 < W0.heap.size; omega)).trans (HR.out.1.1 1)))))
      obtain ⟨c0, c1, c2, c3⟩ := CF.out _ HY.out.1
      have wl := HY.out.1.size
      have m1 : ¬ wr.heap.size = w.heap.size := by omega
      have m2 : ¬ wr.heap.size = w.heap.size + 1 := by omega
      go_upto_region 5 with (fail)
      have RO := hide ((row_drew HY.out.2).alloc (.cells #[.int .i64 (a.x + u2), .int .i64 (a.y + v2)] 55))
      have RD : Hid (Reads (wr.drew.alloc (.cells #[.int .i64 (a.x + u2), .int .i64 (a.y + v2)] 55)) (wr.heap.size + 1) 2 (some ⟨wr.heap.size, 0, none⟩) 1 [.int .i64 (a.x + u2), .int .i64 (a.y + v2)]) := hide ⟨rfl, fun _ => ⟨_, rfl, Nat.lt_succ_self _, World.news_of_block (cs := #[.int .i64 (a.x + u2), .int .i64 (a.y + v2)]) (t := 55) (fr := (0, 0)) (heap_alloc_new wr.drew _)⟩⟩
      have f4 : ∀ y ∈ [Value.int .i64 (a.x + u2), .int .i64 (a.y + v2)], y.oneCell' = true := by simp [Value.oneCell']
      have f1 : k + 1 ≤ maxLen := by unfold maxLen; omega
      have f2 : (k + 1) * 16 ≤ 140737488355328 := by omega
      have f3 : W0.heap.size ≤ (wr.drew.alloc (.cells #[.int .i64 (a.x + u2), .int .i64 (a.y + v2)] 55)).heap.size := by rw [World.size_alloc]; show W0.heap.size ≤ wr.heap.size + 1; omega
      have BWA := hide ((HY.out.1.drew).alloc wl (.cells #[.int .i64 (a.x + u2), .int .i64 (a.y + v2)] 55))
      clear HY
      go_region_held3 (fun w' => w'.cell? ⟨w.heap.size, 0, none⟩ = some (.int .i64 a.x) ∧ w'.cell? ⟨w.heap.size, 1, none⟩ = some (.int .i64 a.y) ∧ w'.cell? ⟨w.heap.size + 1, 0, none⟩ = some (.int .i64 b.x) ∧ w'.cell? ⟨w.heap.size + 1, 1, none⟩ = some (.int .i64 b.y)) (go_keep)
        (first
          | (go_at_call 117; (first | (with_reducible refine (F1.out _).mono ?_) | (with_reducible refine (F2.out _).mono ?_)); rintro e w' ⟨rfl, rfl⟩)
          | (refine step_append_any (w := wr.drew.alloc (.cells #[.int .i64 (a.x + u2), .int .i64 (a.y + v2)] 55)) (by rfl) _ _ _ (by rfl) W0.heap.size 55 i0 _ 2 16 Tryz.underlying159 hi0 hz0 hz1 hz2 rfl (by omega) _ k (flV Pnt.x Pnt.y L) (by rfl) RO.out (wr.heap.size + 1) _ _ _ [.int .i64 (a.x + u2), .int .i64 (a.y + v2)] (by rfl) RD.out f4 f1 f2 f3 ?_; intro v4 w4 hown4 hgrow hor; have BW4 := BWA.out.grown hgrow BWA.out.size (fun j hj => (RO.out.lt j hj).1); obtain ⟨d0, d1, d2, d3⟩ := CF.out _ BW4; have HY := hide (And.intro BW4 hown4); clear BW4 hown4 hgrow hor))
      have HZ : Hid (Below W0.heap.size W0 w4 ∧ w4.ownsRow W0.heap.size 55 2 v4 (k + 1) (flV Pnt.x Pnt.y (ptL a b (k + 1)))) := hide ⟨HY.out.1, by rw [EP.out, flV_append]; exact HY.out.2⟩
      clear HY d0 d1 d2 d3
      go_wp2
      go_roundw
      case rel => exact ⟨k + 1, by omega, by go_num, HZ⟩
      case measure => simp [intOf]; omega
    · obtain rfl : k = 17 := by omega
      have B1 := below_via XB.out XB.out.size HY.out.1
      obtain ⟨g, cap, e, hg, hlt2, hat⟩ := row_pairs Pnt.x Pnt.y HY.out.2 (by rw [ptL_len]; omega)
      subst e
      have PS : PntSl wr (some ⟨g, 0, none⟩) (ptL a b 17) := ⟨by rw [ptL_len]; omega, fun _ => ⟨g, 0, rfl, hlt2, fun i hi => by rw [Nat.zero_add]; exact hat i hi⟩⟩
      have HP := hide (show PtsPost (ptL a b 17) w (.returned (.slice (some ⟨g, 0, none⟩) (ptL a b 17).length cap)) wr from ⟨B1, _, cap, rfl, PS⟩)
      clear B1 hat PS HY
      go_wp2
      go_ret
      exact HP.out
end Go.Proofs.YtlnlaopokelggaaGreatDoor

namespace Go.Proofs.YtlnlaopokelggaaGreatDoor
open Go Go.RowKit

/-- a slice of spans that reads as a list -/
def SpnSl (w : World) (A : Option Addr) (l : List Sp) : Prop :=
  l.length ≤ 9223372036854775807 ∧ (0 < l.length → ∃ b off, A = some ⟨b, off, none⟩ ∧ b < w.heap.size ∧ ∀ i (h : i < l.length), w.cell? ⟨b, off + i * 2, none⟩ = some (.int .i64 l[i].lo) ∧ w.cell? ⟨b, off + i * 2 + 1, none⟩ = some (.int .i64 l[i].hi))
theorem SpnSl.below {w w' : World} {A : Option Addr} {l : List Sp} (h : SpnSl w A l) (hb : Below w.heap.size w w') : SpnSl w' A l :=
  ⟨h.1, fun hl => by
    obtain ⟨b, off, e, hlt, hat⟩ := h.2 hl
    have k := fun (i : Nat) => hb.cell (p := ⟨b, i, none⟩) hlt
    exact ⟨b, off, e, Nat.lt_of_lt_of_le hlt hb.size, fun i hi => ⟨(k _).trans (hat i hi).1, (k _).trans (hat i hi).2⟩⟩⟩
/-- a list of spans in memory of the call's own, or the error -/
def LvsPost (l : List Sp) (er : Int) (w : World) (e : Ending) (w' : World) : Prop := Below w.heap.size w w' ∧ ∃ (A : Option Addr) (n cap : Nat), e = .returned (.tuple #[.slice A n cap, .int .i64 er]) ∧ (er = 0 → n = l.length ∧ SpnSl w' A l)
theorem lvL_len (m : Msh) (a b : Pnt) (n : Nat) : (lvL m a b n).length = n := by simp [lvL]
def lvE (m : Msh) (a b : Pnt) : Int := if allL m a b 17 = true then 0 else 12
set_option maxRecDepth 100000 in
set_option maxHeartbeats 4000000 in
theorem tslevels_any (m : Msh) (a : MshA) (p q : Pnt) (w : World) (hm : MshSl w m a) (ht : Lib.TabIs Tryz.prog w "internal/strconv.uint64pow10" .u64 Lib.pow10Tab) (hv : vM m = true) (hp : p.in) (hq : q.in) :
    Calls Tryz.prog 64 #[m.val a, p.val, q.val, .int .i64 16] w (LvsPost (lvL m p q 17) (lvE m p q) w) := by
  obtain ⟨i0, hi0, hz0, hz1, hz2⟩ := info_parts span_info48
  have PT := hide (fun W => tspoints_any p q W hp hq)
  have LV := hide (fun W r (hr : r.in) h h' => lclevel_any m a r W h h' hv hr)
  have PI := hide (fun k (hk : k < 17) => (show (ptL p q 17)[k]? = some (ptA p q k) by simp [ptL, hk]))
  have PN := hide (fun k (hk : k < 17) => ptA_in hp hq (k := k) (by omega))
  unfold RetW at LV
  have HM := hide hm
  have HT := hide ht
  obtain ⟨A1, c1, A2, c2⟩ := a
  have X := (((Own.start w).alloc #[.slice A1 m.ss.length c1, .slice A2 m.fs.length c2] 52).alloc #[.int .i64 p.x, .int .i64 p.y] 55).alloc #[.int .i64 q.x, .int .i64 q.y] 55
  simp only [World.size_alloc] at X
  have hr := X.r3
  obtain ⟨P, hP⟩ : ∃ P, P = ptL p q 17 := ⟨_, rfl⟩
  rw [← hP] at PT PI
  have lP : P.length = 17 := by rw [hP, ptL_len]
  clear hm ht hv hp hq hP
  go_enter Tryz.func64, Tryz.ntmps64
  go_wp2_with fail
  refine (PT.out _).mono ?_
  rintro e w2 ⟨hb, A, cap, rfl, PS⟩
  replace X := X.to hb
  clear hr hb
  have hr := X.r3
  have lw := hr.2.2.2.2
  have XB := hide X.1
  have HM2 := hide (HM.out.below X.1)
  have HT2 := hide (tab_below HT.out X.1)
  have HPS := hide PS
  have CM := hide (fun W (h : Below w2.heap.size w2 W) => And.intro ((h.cell (p := ⟨w.heap.size, 0, none⟩) hr.2.2.2.2).trans (hr.2.2.1 0)) ((h.cell (p := ⟨w.heap.size, 1, none⟩) hr.2.2.2.2).trans (hr.2.2.1 1)))
  clear X PS HM HT PT
  go_wp2
  have XH := hide (And.intro (Below.refl w2.heap.size w2) (World.ownsRow_nil w2 w2.heap.size 40 2))
  clear hr
  go_loopw [10, 20] (fun v10 v20 wr => ∃ k : Nat, k ≤ 17 ∧ v20 = .int .i64 (k : Int) ∧ Hid (Below w2.heap.size w2 wr ∧ wr.ownsRow w2.heap.size 40 2 v10 k (flV Sp.lo Sp.hi (lvL m p q k))) ∧ Hid (allL m p q k = true)) (fun _ v20 _ => 17 - (intOf v20).toNat)
  case atStart => exact ⟨0, by omega, rfl, XH, hide rfl⟩
  case round =>
    clear XH
    obtain ⟨k, hk, rfl, HY, HL⟩ := hrel
    obtain ⟨z0, z1⟩ := CM.out _ HY.out.1
    by_cases hlt : k < 17
    · have g1 : decide (k < P.length) = true := decide_eq_true (by omega)
      have g2 : (0 : Int) ≤ (k : Int) := by omega
      have g3 : (k : Int) < (P.length : Int) := by omega
      obtain ⟨b, off, rfl, hbl, hat⟩ := HPS.out.2 (by omega)
      obtain ⟨d0, d1⟩ := hat k (by omega)
      have eP : P[k]'(by omega) = ptA p q k := by
        have := PI.out k hlt
        rw [List.getElem?_eq_getElem (by omega)] at this
        exact Option.some.inj this
      rw [eP] at d0 d1
      replace d0 := (HY.out.1.cell (p := ⟨b, off + k * 2, none⟩) hbl).trans d0
      replace d1 := (HY.out.1.cell (p := ⟨b, off + k * 2 + 1, none⟩) hbl).trans d1
      have LK := hide (fun W h h' => LV.out W (ptA p q k) (PN.out k hlt) h h')
      have ES := hide (allL_succ m p q k)
      have EL := hide (lvL_succ m p q k)
      have EG : Hid (lvG m p q k = (lvA m (ptA p q k)).getD Sp.zero) := hide rfl
      have EN : Hid (lvA m (ptA p q k) = none → lvE m p q = 12) := hide (fun h => by
        unfold lvE
        rw [if_neg]
        intro hc
        have := allL_at hc hlt
        rw [h] at this
        cases this)
      clear hat eP
      generalize ptA p q k = r at *
      generalize lvA m r = o at *
      have wl := HY.out.1.size
      have m0 : ¬ w.heap.size = wr.heap.size := by omega
      have m00 : w.heap.size < wr.heap.size := by omega
      have BA := hide (HY.out.1.alloc wl (.cells #[.int .i64 r.x, .int .i64 r.y] 55))
      have RA := hide (HY.out.2.alloc (.cells #[.int .i64 r.x, .int .i64 r.y] 55))
      have wl2 : w2.heap.size ≤ (wr.alloc (.cells #[.int .i64 r.x, .int .i64 r.y] 55)).heap.size := BA.out.size
      cases o with
      | none =>
        have E12 := hide (EN.out rfl)
        simp only [lvR] at LK
        clear HY EN ES EG EL HL
        go_wp2_with fail
        refine (LK.out _ (HM2.out.below BA.out) (tab_below HT2.out BA.out)).mono ?_
        rintro e w3 ⟨rfl, hb⟩
        have B3 := hide (below_via BA.out wl2 hb)
        clear hb
        have HP := hide (show ∀ o, LvsPost (lvL m p q 17) (lvE m p q) w (.returned (.tuple #[.slice none 0 0, .int .i64 12])) (w3.alloc o) from fun o => ⟨below_via XB.out XB.out.size (B3.out.alloc B3.out.size o), none, 0, 0, by rw [E12.out], fun h => by rw [E12.out] at h; cases h⟩)
        go_wp2
        exact bodyPost_ret (v := .tuple #[.slice none 0 0, .int .i64 12]) (by simp [results, Tryz.results64, go_sem]) rfl (HP.out _)
      | some s =>
        simp only [lvR] at LK
        have EG2 : Hid (lvG m p q k = s) := hide EG.out
        have EA : Hid (allL m p q (k + 1) = true) := hide (by rw [ES.out, HL.out]; rfl)
        obtain ⟨L, hL⟩ : ∃ L, L = lvL m p q k := ⟨_, rfl⟩
        have EL2 : Hid (lvL m p q (k + 1) = L ++ [s]) := hide (by rw [EL.out, EG2.out, hL])
        have lL : Hid (L.length = k) := hide (by rw [hL, lvL_len])
        rw [← hL] at RA
        clear HY EN ES EG EL HL EG2 hL
        go_wp2_with fail
        refine (LK.out _ (HM2.out.below BA.out) (tab_below HT2.out BA.out)).mono ?_
        rintro e w3 ⟨rfl, hb⟩
        have B3 := hide (below_via BA.out wl2 hb)
        have R3 := hide (row_below RA.out hb)
        clear hb BA RA wl2
        have wl3 := B3.out.size
        have B4 := hide ((B3.out.alloc wl3 (.cells #[.int .i64 s.lo, .int .i64 s.hi] 40)).alloc (by rw [World.size_alloc]; omega) (.cells #[.int .i64 s.lo, .int .i64 s.hi] 40))
        have R4 := hide ((R3.out.alloc (.cells #[.int .i64 s.lo, .int .i64 s.hi] 40)).alloc (.cells #[.int .i64 s.lo, .int .i64 s.hi] 40))
        have NW := hide (World.news_of_block (cs := #[.int .i64 s.lo, .int .i64 s.hi]) (t := 40) (fr := (0, 0)) (heap_alloc_new (w3.alloc (.cells #[.int .i64 s.lo, .int .i64 s.hi] 40)) _))
        have f4 : ∀ y ∈ [Value.int .i64 s.lo, .int .i64 s.hi], y.oneCell' = true := by simp [Value.oneCell']
        have f1 : k + 1 ≤ maxLen := by unfold maxLen; omega
        have f2 : (k + 1) * 16 ≤ 140737488355328 := by omega
        have f3 := B4.out.size
        rw [World.size_alloc] at NW
        go_wp2_with (at_builtin; refine wpList_append_own _ rfl _ _ 88 rfl w2.heap.size 40 i0 (.agg #[.int .i64 0, .int .i64 0]) 2 16 Tryz.underlying88 hi0 hz0 hz1 hz2 rfl (by decide) _ k (flV Sp.lo Sp.hi L) rfl R4.out ⟨w3.heap.size + 1, 0, none⟩ 1 1 [.int .i64 s.lo, .int .i64 s.hi] rfl rfl NW.out f4 f1 f2 f3 ?_; intro v5 w5 hown5 hgrow hor)
        have B5 := B4.out.grown hgrow B4.out.size (fun j hj => (R4.out.lt j hj).1)
        have HZ : Hid (Below w2.heap.size w2 w5 ∧ w5.ownsRow w2.heap.size 40 2 v5 (k + 1) (flV Sp.lo Sp.hi (lvL m p q (k + 1)))) := hide ⟨B5, by rw [EL2.out, flV_append]; exact hown5⟩
        clear hown5 hgrow hor B5 B4 R4
        go_roundw
        case rel => exact ⟨k + 1, by omega, by go_num, HZ, EA⟩
        case measure => simp [intOf]; omega
    · obtain rfl : k = 17 := by omega
      have g1 : decide (17 < P.length) = false := decide_eq_false (by omega)
      have E0 : lvE m p q = 0 := by unfold lvE; rw [if_pos HL.out]
      obtain ⟨g, cap', e, hg, hlt2, hat⟩ := row_pairs Sp.lo Sp.hi HY.out.2 (by rw [lvL_len]; omega)
      subst e
      have SS : SpnSl wr (some ⟨g, 0, none⟩) (lvL m p q 17) := ⟨by rw [lvL_len]; omega, fun _ => ⟨g, 0, rfl, hlt2, fun i hi => by rw [Nat.zero_add]; exact hat i hi⟩⟩
      have HP := hide (show LvsPost (lvL m p q 17) (lvE m p q) w (.returned (.tuple #[.slice (some ⟨g, 0, none⟩) (lvL m p q 17).length cap', .int .i64 0])) wr from ⟨below_via XB.out XB.out.size HY.out.1, _, _, cap', by rw [E0], fun _ => ⟨rfl, SS⟩⟩)
      clear hat SS HY E0
      go_wp2
      go_ret2
      exact HP.out
set_option maxHeartbeats 2000000 in
theorem tsLevels_any (m : Msh) (a : MshA) (p q : Pnt) (w : World) (hm : MshSl w m a) (ht : Lib.TabIs Tryz.prog w "internal/strconv.uint64pow10" .u64 Lib.pow10Tab) (hv : vM m = true) (hp : p.in) (hq : q.in) (hne : p ≠ q) :
    Calls Tryz.prog 38 #[m.val a, p.val, q.val, .int .i64 16] w (LvsPost (lvL m p q 17) (lvE m p q) w) := by
  have CT := hide (fun W bm h1 h2 h3 => tscounted_any m a bm p q W h1 h2 h3 hv hp hq hne)
  have LS := hide (fun W h h' => tslevels_any m a p q W h h' hv hp hq)
  unfold RetW at CT
  have HM := hide hm
  have HT := hide ht
  obtain ⟨A1, c1, A2, c2⟩ := a
  have X := (((Own.start w).alloc #[.slice A1 m.ss.length c1, .slice A2 m.fs.length c2] 52).alloc #[.int .i64 p.x, .int .i64 p.y] 55).alloc #[.int .i64 q.x, .int .i64 q.y] 55
  simp only [World.size_alloc] at X
  have hr := X.r3
  clear hm ht hv hp hq hne
  go_enter Tryz.func38, Tryz.ntmps38
  go_wp2_with fail
  refine (CT.out _ _ (X.2 (w.heap.size, 52, #[.slice A1 m.ss.length c1, .slice A2 m.fs.length c2]) (by simp)) (HM.out.below X.1) (tab_below HT.out X.1)).mono ?_
  rintro e w1 ⟨rfl, hb⟩
  replace X := X.to hb
  clear hr hb
  have hr := X.r3
  go_wp2_with fail
  refine (LS.out _ (HM.out.below X.1) (tab_below HT.out X.1)).mono ?_
  rintro e w2 ⟨hb, A, n, cap, rfl, hS⟩
  have HP := hide (show LvsPost (lvL m p q 17) (lvE m p q) w (.returned (.tuple #[.slice A n cap, .int .i64 (lvE m p q)])) w2 from ⟨(X.to hb).1, A, n, cap, rfl, hS⟩)
  clear hb hS X hr
  generalize lvE m p q = er at *
  go_wp2
  go_ret2
  exact HP.out
end Go.Proofs.YtlnlaopokelggaaGreatDoor

namespace Go.Proofs.YtlnlaopokelggaaGreatDoor

theorem dn_mono {n m d : Int} (hd : 0 < d) (h : n ≤ m) : dn n d ≤ dn m d := by
  obtain ⟨k1, _⟩ := dn_bd (n := n) hd
  obtain ⟨_, k2⟩ := dn_bd (n := m) hd
  have : dn n d * d < (dn m d + 1) * d := by omega
  have := Int.lt_of_mul_lt_mul_right this (by omega)
  omega
theorem up_mono {n m d : Int} (hd : 0 < d) (h : n ≤ m) : up n d ≤ up m d := by
  have := dn_mono (n := -m) (m := -n) hd (by omega)
  unfold up; omega
theorem dn_nn {n d : Int} (hd : 0 < d) (h : 0 ≤ n) : 0 ≤ dn n d := by
  unfold dn; rw [if_neg (by omega)]; exact Int.ediv_nonneg h (by omega)
theorem up_nn {n d : Int} (hd : 0 < d) (h : 0 ≤ n) : 0 ≤ up n d := by
  obtain ⟨k1, _⟩ := up_bd (n := n) hd
  rcases Int.lt_or_le (up n d) 0 with k | k
  · have : up n d * d ≤ (-1) * d := Int.mul_le_mul_of_nonneg_right (by omega) (by omega)
    omega
  · exact k
theorem dn_up {n d : Int} (hd : 0 < d) : dn n d ≤ up n d := by
  obtain ⟨k1, _⟩ := dn_bd (n := n) hd
  obtain ⟨j1, _⟩ := up_bd (n := n) hd
  exact Int.le_of_mul_le_mul_right (by omega : dn n d * d ≤ up n d * d) hd
theorem dn_den {n d e : Int} (hd : 0 < d) (he : d ≤ e) (h : 0 ≤ n) : dn n e ≤ dn n d := by
  obtain ⟨k1, _⟩ := dn_bd (n := n) (d := e) (by omega)
  obtain ⟨_, k2⟩ := dn_bd (n := n) hd
  have h0 := dn_nn (n := n) (d := e) (by omega) h
  have : dn n e * d ≤ dn n e * e := Int.mul_le_mul_of_nonneg_left he h0
  have : dn n e * d < (dn n d + 1) * d := by omega
  have := Int.lt_of_mul_lt_mul_right this (by omega)
  omega
theorem up_den {n d e : Int} (hd : 0 < d) (he : d ≤ e) (h : 0 ≤ n) : up n e ≤ up n d := by
  obtain ⟨_, k1⟩ := up_bd (n := n) (d := e) (by omega)
  obtain ⟨k2, _⟩ := up_bd (n := n) hd
  have h0 := up_nn (n := n) hd h
  have : up n d * d ≤ up n d * e := Int.mul_le_mul_of_nonneg_left he h0
  have : (up n e - 1) * e < up n d * e := by omega
  have := Int.lt_of_mul_lt_mul_right this (by omega)
  omega
/-- so many years of a rate n / d -/
def prL (n d : Int) : Nat → Int → Int
  | 0, c => c
  | y + 1, c => dn (prL n d y c * d) (d + n)
def prU (n d : Int) : Nat → Int → Int
  | 0, c => c
  | y + 1, c => up (prU n d y c * d) (d + n)
theorem prL_add (n d : Int) (a c) : ∀ b, prL n d (a + b) c = prL n d b (prL n d a c)
  | 0 => rfl
  | b + 1 => by rw [← Nat.add_assoc]; simp only [prL]; rw [prL_add n d a c b]
theorem prU_add (n d : Int) (a c) : ∀ b, prU n d (a + b) c = prU n d b (prU n d a c)
  | 0 => rfl
  | b + 1 => by rw [← Nat.add_assoc]; simp only [prU]; rw [prU_add n d a c b]
theorem dn_step {n d x : Int} (hn : 0 ≤ n) (hd : 1 ≤ d) (hx : 0 ≤ x) : 0 ≤ dn (x * d) (d + n) ∧ dn (x * d) (d + n) ≤ x := by
  have h0 : 0 ≤ x * d := Int.mul_nonneg hx (by omega)
  refine ⟨dn_nn (by omega) h0, ?_⟩
  obtain ⟨k1, _⟩ := dn_bd (n := x * d) (d := d + n) (by omega)
  have : x * d ≤ x * (d + n) := Int.mul_le_mul_of_nonneg_left (by omega) hx
  exact Int.le_of_mul_le_mul_right (by omega : dn (x * d) (d + n) * (d + n) ≤ x * (d + n)) (by omega)
theorem up_step {n d x : Int} (hn : 0 ≤ n) (hd : 1 ≤ d) (hx : 0 ≤ x) : 0 ≤ up (x * d) (d + n) ∧ up (x * d) (d + n) ≤ x := by
  have h0 : 0 ≤ x * d := Int.mul_nonneg hx (by omega)
  refine ⟨up_nn (by omega) h0, ?_⟩
  obtain ⟨_, k1⟩ := up_bd (n := x * d) (d := d + n) (by omega)
  have : x * d ≤ x * (d + n) := Int.mul_le_mul_of_nonneg_left (by omega) hx
  have : (up (x * d) (d + n) - 1) * (d + n) < x * (d + n) := by omega
  have := Int.lt_of_mul_lt_mul_right this (by omega)
  omega
theorem pr_bd {n d c : Int} (hn : 0 ≤ n) (hd : 1 ≤ d) (hc : 0 ≤ c) : ∀ y, 0 ≤ prL n d y c ∧ prL n d y c ≤ prU n d y c ∧ prU n d y c ≤ c
  | 0 => by simp [prL, prU]; omega
  | y + 1 => by
    obtain ⟨h1, h2, h3⟩ := pr_bd hn hd hc y
    simp only [prL, prU]
    have a := dn_step hn hd h1
    have b := up_step hn hd (x := prU n d y c) (by omega)
    have m : dn (prL n d y c * d) (d + n) ≤ dn (prU n d y c * d) (d + n) := dn_mono (by omega) (Int.mul_le_mul_of_nonneg_right h2 (by omega))
    have k := dn_up (n := prU n d y c * d) (d := d + n) (by omega)
    omega
theorem pr_later {n d c : Int} (hn : 0 ≤ n) (hd : 1 ≤ d) (hc : 0 ≤ c) (a : Nat) : ∀ b, prL n d (a + b) c ≤ prL n d a c ∧ prU n d (a + b) c ≤ prU n d a c
  | 0 => ⟨Int.le_refl _, Int.le_refl _⟩
  | b + 1 => by
    obtain ⟨h1, h2⟩ := pr_later hn hd hc a b
    obtain ⟨k1, k2, _⟩ := pr_bd hn hd hc (a + b)
    rw [← Nat.add_assoc]
    simp only [prL, prU]
    have a1 := dn_step hn hd k1
    have b1 := up_step hn hd (x := prU n d (a + b) c) (by omega)
    omega
theorem pr_rate {n m d c : Int} (hn : 0 ≤ n) (hm : n ≤ m) (hd : 1 ≤ d) (hc : 0 ≤ c) : ∀ y, prL m d y c ≤ prL n d y c ∧ prU m d y c ≤ prU n d y c
  | 0 => ⟨Int.le_refl _, Int.le_refl _⟩
  | y + 1 => by
    obtain ⟨h1, h2⟩ := pr_rate hn hm hd hc y
    obtain ⟨k1, k2, _⟩ := pr_bd (n := m) (by omega) hd hc y
    obtain ⟨j1, j2, _⟩ := pr_bd hn hd hc y
    simp only [prL, prU]
    have x1 := dn_den (n := prL m d y c * d) (d := d + n) (e := d + m) (by omega) (by omega) (Int.mul_nonneg k1 (by omega))
    have x2 : dn (prL m d y c * d) (d + n) ≤ dn (prL n d y c * d) (d + n) := dn_mono (by omega) (Int.mul_le_mul_of_nonneg_right h1 (by omega))
    have y1 := up_den (n := prU m d y c * d) (d := d + n) (e := d + m) (by omega) (by omega) (Int.mul_nonneg (by omega) (by omega))
    have y2 : up (prU m d y c * d) (d + n) ≤ up (prU n d y c * d) (d + n) := up_mono (by omega) (Int.mul_le_mul_of_nonneg_right h2 (by omega))
    omega
theorem pr_cost {n d c e : Int} (hn : 0 ≤ n) (hd : 1 ≤ d) (hc : 0 ≤ c) (he : c ≤ e) : ∀ y, prL n d y c ≤ prL n d y e ∧ prU n d y c ≤ prU n d y e
  | 0 => ⟨he, he⟩
  | y + 1 => by
    obtain ⟨h1, h2⟩ := pr_cost hn hd hc he y
    simp only [prL, prU]
    exact ⟨dn_mono (by omega) (Int.mul_le_mul_of_nonneg_right h1 (by omega)), up_mono (by omega) (Int.mul_le_mul_of_nonneg_right h2 (by omega))⟩
theorem pr_two {n d c : Int} (hn : 0 ≤ n) (hd : 1 ≤ d) : prL n d 2 c * ((d + n) * (d + n)) ≤ c * d * d ∧ c * d * d ≤ prU n d 2 c * ((d + n) * (d + n)) := by
  have hs : 0 < d + n := by omega
  obtain ⟨a1, _⟩ := dn_bd (n := c * d) hs
  obtain ⟨a2, _⟩ := dn_bd (n := dn (c * d) (d + n) * d) hs
  obtain ⟨b1, _⟩ := up_bd (n := c * d) hs
  obtain ⟨b2, _⟩ := up_bd (n := up (c * d) (d + n) * d) hs
  simp only [prL, prU]
  generalize hx : dn (c * d) (d + n) = x at *
  generalize hy : up (c * d) (d + n) = y at *
  generalize dn (x * d) (d + n) = u at *
  generalize up (y * d) (d + n) = v at *
  generalize d + n = s at *
  have e1 : u * s * s ≤ x * d * s := Int.mul_le_mul_of_nonneg_right a2 (by omega)
  have e2 : x * s * d ≤ c * d * d := Int.mul_le_mul_of_nonneg_right a1 (by omega)
  have e3 : y * d * s ≤ v * s * s := Int.mul_le_mul_of_nonneg_right b2 (by omega)
  have e4 : c * d * d ≤ y * s * d := Int.mul_le_mul_of_nonneg_right b1 (by omega)
  have r1 : u * (s * s) = u * s * s := (Int.mul_assoc ..).symm
  have r2 : v * (s * s) = v * s * s := (Int.mul_assoc ..).symm
  have r3 : x * d * s = x * s * d := by rw [Int.mul_assoc, Int.mul_comm d s, ← Int.mul_assoc]
  have r4 : y * d * s = y * s * d := by rw [Int.mul_assoc, Int.mul_comm d s, ← Int.mul_assoc]
  omega
/-- a present value, or the error -/
def prB (c n d y : Int) : Bool := decide (0 ≤ c) && decide (c ≤ 1125899906842624) && (decide (0 ≤ n) && decide (n ≤ 10000)) && (decide (1 ≤ d) && decide (d ≤ 10000)) && (decide (0 ≤ y) && decide (y ≤ 200))
def prE (c n d y : Int) : Int := if prB c n d y = true then 0 else 2
def prS (c n d y : Int) : Sp := if prB c n d y = true then ⟨prL n d y.toNat c, prU n d y.toNat c⟩ else Sp.zero
theorem prB_iff {c n d y : Int} : prB c n d y = true ↔ (0 ≤ c ∧ c ≤ 1125899906842624) ∧ (0 ≤ n ∧ n ≤ 10000) ∧ (1 ≤ d ∧ d ≤ 10000) ∧ 0 ≤ y ∧ y ≤ 200 := by
  simp only [prB, Bool.and_eq_true, decide_eq_true_eq]; omega
/-- a pipe that lies lower lies lower everywhere -/
theorem pip_mono {u d u' d' : Int} (hu : u' ≤ u) (hd : d' ≤ d) {k : Nat} (hk : k ≤ 16) : u' + pHi u' d' k ≤ u + pHi u d k ∧ u' + pLo u' d' k ≤ u + pLo u d k := by
  have m1 : u' * (16 - (k : Int)) ≤ u * (16 - (k : Int)) := Int.mul_le_mul_of_nonneg_right hu (by omega)
  have m2 : d' * (k : Int) ≤ d * (k : Int) := Int.mul_le_mul_of_nonneg_right hd (by omega)
  have e1 : (d - u) * (k : Int) = d * (k : Int) + u * (16 - (k : Int)) - 16 * u := by grind
  have e2 : (d' - u') * (k : Int) = d' * (k : Int) + u' * (16 - (k : Int)) - 16 * u' := by grind
  unfold pHi pLo up dn
  rw [e1, e2]
  have hxy : d' * (k : Int) + u' * (16 - (k : Int)) ≤ d * (k : Int) + u * (16 - (k : Int)) := by omega
  generalize d * (k : Int) + u * (16 - (k : Int)) = x at *
  generalize d' * (k : Int) + u' * (16 - (k : Int)) = y at *
  simp only [show ¬ ((16 : Int) < 0) by omega, if_false]
  omega
theorem cv_mono {m : Msh} {a b : Pnt} {u d u' d' : Int} (hu : u' ≤ u) (hd : d' ≤ d) {k : Nat} (hk : k ≤ 16) : cvL m a b u d k ≤ cvL m a b u' d' k ∧ cvH m a b u d k ≤ cvH m a b u' d' k := by
  obtain ⟨h1, h2⟩ := pip_mono hu hd hk
  unfold cvL cvH
  rcases tms_two k with e | e <;> rw [e] <;> omega
theorem sm_mono {m : Msh} {a b : Pnt} {u d u' d' : Int} (hu : u' ≤ u) (hd : d' ≤ d) : ∀ k : Nat, k ≤ 17 → smL m a b u d k ≤ smL m a b u' d' k ∧ smH m a b u d k ≤ smH m a b u' d' k
  | 0, _ => ⟨Int.le_refl _, Int.le_refl _⟩
  | k + 1, hk => by
    have i := sm_mono (m := m) (a := a) (b := b) hu hd k (by omega)
    have c := cv_mono (m := m) (a := a) (b := b) hu hd (k := k) (by omega)
    simp only [smL, smH]
    omega
theorem trS_lo (m : Msh) (a b : Pnt) (u d wd : Int) : (trS m a b u d wd).lo = dn (smL m a b u d 17 * ((dsS a b).lo * wd)) 32000 := rfl
theorem trS_hi (m : Msh) (a b : Pnt) (u d wd : Int) : (trS m a b u d wd).hi = up (smH m a b u d 17 * ((dsS a b).hi * wd)) 32000 := rfl
theorem trS_ok {m : Msh} (hm : vM m = true) {a b : Pnt} (ha : a.in) (hb : b.in) {u d wd : Int} (hr : rngB u d wd = true) (hl : allL m a b 17 = true) : 0 ≤ (trS m a b u d wd).lo ∧ (trS m a b u d wd).lo ≤ (trS m a b u d wd).hi := by
  obtain ⟨h1, h2, h3, h4⟩ := rngB_iff.1 hr
  obtain ⟨s1, s2, _⟩ := sm_bd hm h1 h2 hl 17 (by omega) (by omega)
  obtain ⟨d1, d2, _⟩ := dsS_bd ha hb
  have p1 : 0 ≤ (dsS a b).lo * wd := Int.mul_nonneg d1 (by omega)
  have p2 : (dsS a b).lo * wd ≤ (dsS a b).hi * wd := Int.mul_le_mul_of_nonneg_right d2 (by omega)
  have q1 : 0 ≤ smL m a b u d 17 * ((dsS a b).lo * wd) := Int.mul_nonneg s1 p1
  have q2 : smL m a b u d 17 * ((dsS a b).lo * wd) ≤ smH m a b u d 17 * ((dsS a b).hi * wd) := Int.mul_le_mul s2 p2 p1 (by omega)
  rw [trS_lo, trS_hi]
  refine ⟨dn_nn (by omega) q1, ?_⟩
  have := dn_mono (d := 32000) (by omega) q2
  have := dn_up (n := smH m a b u d 17 * ((dsS a b).hi * wd)) (d := 32000) (by omega)
  omega
theorem trS_deep {m : Msh} (hm : vM m = true) {a b : Pnt} (ha : a.in) (hb : b.in) {u d wd u' d' wd' : Int} (hr : rngB u d wd = true) (hl : allL m a b 17 = true) (hu : u' ≤ u) (hd : d' ≤ d) (hw : wd ≤ wd') :
    (trS m a b u d wd).lo ≤ (trS m a b u' d' wd').lo ∧ (trS m a b u d wd).hi ≤ (trS m a b u' d' wd').hi := by
  obtain ⟨h1, h2, h3, h4⟩ := rngB_iff.1 hr
  obtain ⟨s1, s2, _⟩ := sm_bd hm h1 h2 hl 17 (by omega) (by omega)
  obtain ⟨m1, m2⟩ := sm_mono (m := m) (a := a) (b := b) hu hd 17 (by omega)
  obtain ⟨d1, d2, _⟩ := dsS_bd ha hb
  have p1 : (dsS a b).lo * wd ≤ (dsS a b).lo * wd' := Int.mul_le_mul_of_nonneg_left hw d1
  have p2 : (dsS a b).hi * wd ≤ (dsS a b).hi * wd' := Int.mul_le_mul_of_nonneg_left hw (by omega)
  have z1 : 0 ≤ (dsS a b).lo * wd := Int.mul_nonneg d1 (by omega)
  have z2 : 0 ≤ (dsS a b).hi * wd := Int.mul_nonneg (by omega) (by omega)
  simp only [trS_lo, trS_hi]
  exact ⟨dn_mono (by omega) (Int.mul_le_mul m1 p1 z1 (by omega)), up_mono (by omega) (Int.mul_le_mul m2 p2 z2 (by omega))⟩
theorem sm_none {m : Msh} (hm : vM m = true) {a b : Pnt} {n : Nat} (h : allL m a b n = true) : ∀ k : Nat, k ≤ n → k ≤ 17 → smL m a b 4194304 4194304 k = 0 ∧ smH m a b 4194304 4194304 k = 0
  | 0, _, _ => ⟨rfl, rfl⟩
  | k + 1, hk, hk' => by
    obtain ⟨i1, i2⟩ := sm_none hm h k (by omega) (by omega)
    obtain ⟨⟨l1, l2⟩, ⟨l3, l4⟩, l5⟩ := lvG_bd hm h (k := k) (by omega)
    have e1 : pHi 4194304 4194304 k = 0 := by simp [pHi, up, dn]
    have e2 : pLo 4194304 4194304 k = 0 := by simp [pLo, dn]
    simp only [smL, smH, cvL, cvH, i1, i2, e1, e2]
    rcases tms_two k with e | e <;> rw [e] <;> omega
theorem trS_none {m : Msh} (hm : vM m = true) {a b : Pnt} (h : allL m a b 17 = true) (wd : Int) : trS m a b 4194304 4194304 wd = Sp.zero := by
  obtain ⟨i1, i2⟩ := sm_none hm h 17 (by omega) (by omega)
  simp [trS, i1, i2, Sp.zero, up, dn]
end Go.Proofs.YtlnlaopokelggaaGreatDoor

namespace Go.Proofs.YtlnlaopokelggaaGreatDoor
open Go Go.RowKit

set_option maxRecDepth 100000 in
set_option maxHeartbeats 4000000 in
theorem pldist_any (a b : Pnt) (w : World) (ha : a.in) (hb : b.in) : Calls Tryz.prog 39 #[a.val, b.val] w (RetW (.tuple #[(dsS a b).val, .int .i64 0]) w) := by
  have AL := hide (fun W g (h : PntSl W (some ⟨g, 0, none⟩) [a, b]) => plall_any [a, b] (some ⟨g, 0, none⟩) 2 W h)
  have e1 : [a, b].all inP = true := by simp [inP_iff.2 ha, inP_iff.2 hb]
  rw [e1] at AL
  have SQ := hide (fun W => plsquare_any a b W ha hb)
  obtain ⟨_, s0, s1⟩ := sqD_bd ha hb
  obtain ⟨k0, k1, k2⟩ := isq_bd s0
  have k3 : isq (sqD a b) < 67108863 := sq_lt k0 (by omega) (by omega)
  obtain ⟨n, hn⟩ : ∃ n : Nat, sqD a b = (n : Int) := ⟨(sqD a b).toNat, by omega⟩
  have OF := hide (fun W => wsof_any (n : Int) W ⟨by omega, by omega⟩)
  have RT := hide (fun W => wsroot_any n W (by omega))
  have ED : Hid (dsS a b = ⟨isq (n : Int), isqU (n : Int)⟩) := hide (by rw [← hn]; rfl)
  have EU : Hid (isqU (n : Int) = if isq (n : Int) * isq (n : Int) < (n : Int) then isq (n : Int) + 1 else isq (n : Int)) := hide rfl
  rw [hn] at SQ k0 k1 k2 k3
  rw [ED.out]
  unfold RetW at AL SQ OF RT
  obtain ⟨U, hU⟩ : ∃ U, U = isqU (n : Int) := ⟨_, rfl⟩
  rw [← hU] at EU ⊢
  have n51 : (n : Int) ≤ 2251799813685248 := by omega
  clear ED hU e1 hn s0 s1 k2
  generalize isq (n : Int) = r at *
  obtain ⟨rr, hrr⟩ : ∃ rr, rr = r * r := ⟨_, rfl⟩
  rw [← hrr] at EU k1
  have rr0 : 0 ≤ rr := by rw [hrr]; exact Int.mul_nonneg k0 k0
  have w1 : IntKind.i64.wrap (r * r) = rr := by rw [← hrr]; exact IntWalk.i64_in _ (by omega)
  have w2 := IntWalk.i64_in (r + 1) (by omega)
  have X := (((Own.start w).alloc #[.int .i64 a.x, .int .i64 a.y] 55).alloc #[.int .i64 b.x, .int .i64 b.y] 55).alloc #[.int .i64 0, .int .i64 0] 40
  simp only [World.size_alloc] at X
  have hr := X.r3
  clear hrr ha hb
  unfold WV at *
  generalize (n : Int) / 1152921504606846976 = nh at *
  generalize (n : Int) % 1152921504606846976 = nl at *
  have ways : (rr < (n : Int) ∧ U = r + 1) ∨ (¬ rr < (n : Int) ∧ U = r) := by
    rw [EU.out]
    by_cases h : rr < (n : Int)
    · exact .inl ⟨h, if_pos h⟩
    · exact .inr ⟨h, if_neg h⟩
  clear EU
  show Calls _ _ _ _ (RetW (.tuple #[.agg #[.int .i64 r, .int .i64 U], .int .i64 0]) w)
  rcases ways with ⟨h, e⟩ | ⟨h, e⟩
  all_goals
    rw [e]
    clear e
    go_enter Tryz.func39, Tryz.ntmps39
    go_wp2_with fail
    have Y := X.alloc #[.int .i64 a.x, .int .i64 a.y, .int .i64 b.x, .int .i64 b.y] 55
    simp only [World.size_alloc] at Y
    have PS : PntSl ((((w.alloc (.cells #[.int .i64 a.x, .int .i64 a.y] 55)).alloc (.cells #[.int .i64 b.x, .int .i64 b.y] 55)).alloc (.cells #[.int .i64 0, .int .i64 0] 40)).alloc (.cells #[.int .i64 a.x, .int .i64 a.y, .int .i64 b.x, .int .i64 b.y] 55)) (some ⟨w.heap.size + 1 + 1 + 1, 0, none⟩) [a, b] :=
      ⟨by simp, fun _ => ⟨_, 0, rfl, Y.r1.2.2, fun i hi => by
        have : i = 0 ∨ i = 1 := by simp at hi; omega
        rcases this with rfl | rfl
        · exact ⟨Y.r1.1 0, Y.r1.1 1⟩
        · exact ⟨Y.r1.1 2, Y.r1.1 3⟩⟩⟩
    refine (AL.out _ _ PS).mono ?_
    rintro e w1 ⟨rfl, hb⟩
    replace X := (Y.to hb).tail
    clear hr hb Y PS
    have hr := X.r3
    go_wp2_with fail
    refine (SQ.out _).mono ?_
    rintro e w2 ⟨rfl, hb⟩
    replace X := X.to hb
    clear hr hb
    go_wp2_with fail
    refine (OF.out _).mono ?_
    rintro e w3 ⟨rfl, hb⟩
    replace X := X.to hb
    clear hb
    go_wp2_with fail
    refine (RT.out _).mono ?_
    rintro e w4 ⟨rfl, hb⟩
    replace X := X.to hb
    clear hb
    have hr := X.r3
    have XB := hide X.1
    go_wp2
    exact bodyPost_ret (v := .tuple #[.agg #[.int .i64 r, .int .i64 _], .int .i64 0]) (by simp [results, Tryz.results39, hr, go_sem]) rfl ⟨rfl, by have HX := XB.out; have hz := HX.size; go_grown⟩
set_option maxHeartbeats 1000000 in
theorem cobetween_any (n l h : Int) (w : World) : Calls Tryz.prog 30 #[.int .i64 n, .int .i64 l, .int .i64 h] w fun e w' => e = .returned (.bool (decide (l ≤ n) && decide (n ≤ h))) ∧ w = w' := by
  have ways : decide (l ≤ n) = true ∨ decide (l ≤ n) = false := by cases decide (l ≤ n) <;> simp
  rcases ways with q1 | q1
  all_goals
    rw [q1]
    go_enter Tryz.func30, Tryz.ntmps30
    go_wp2
    go_ret
    exact ⟨ret_bool (by simp), rfl⟩
end Go.Proofs.YtlnlaopokelggaaGreatDoor

namespace Go.Proofs.YtlnlaopokelggaaGreatDoor
open Go.RowKit

def letB (c : Int) : Bool := decide ((97 ≤ c ∧ c ≤ 122) ∨ (65 ≤ c ∧ c ≤ 90))
def digB (c : Int) : Bool := decide (48 ≤ c ∧ c ≤ 57)
def wdB (c : Int) : Bool := letB c || digB c || c == 95
/-- how many bytes at the beginning are those of a word -/
def wl (l : List UInt8) : Nat := (l.takeWhile fun b => wdB (b.toNat : Int)).length
/-- whether a list of bytes is a name -/
def nameB (l : List UInt8) : Bool :=
  match l with
  | [] => false
  | c :: r => decide (r.length + 1 ≤ 20) && letB (c.toNat : Int) && decide (wl (c :: r) = r.length + 1)
theorem wl_le (l : List UInt8) : wl l ≤ l.length := by unfold wl; exact (List.takeWhile_sublist _).length_le
theorem wl_nil : wl [] = 0 := rfl
theorem wl_cons (c : UInt8) (l : List UInt8) : wl (c :: l) = if wdB (c.toNat : Int) = true then wl l + 1 else 0 := by
  unfold wl
  by_cases h : wdB (c.toNat : Int) = true <;> simp [h]
theorem drop_byte (s : ByteArray) (k : Nat) (h : k < s.size) : s.data.toList.drop k = s[k] :: s.data.toList.drop (k + 1) := by
  rw [List.drop_eq_getElem_cons (by simpa using h)]; rfl
theorem wl_at (s : ByteArray) (k : Nat) (h : k < s.size) (hk : wl s.data.toList = k + wl (s.data.toList.drop k)) :
    if wdB (s[k].toNat : Int) = true then wl s.data.toList = k + 1 + wl (s.data.toList.drop (k + 1)) else wl s.data.toList = k := by
  rw [drop_byte s k h, wl_cons] at hk
  split <;> rename_i hw
  · rw [if_pos hw] at hk; omega
  · rw [if_neg hw] at hk; omega
theorem wl_end (s : ByteArray) (hk : wl s.data.toList = s.size + wl (s.data.toList.drop s.size)) : wl s.data.toList = s.size := by
  rw [List.drop_of_length_le (by simp), wl_nil] at hk; exact hk
theorem nameB_nil (s : ByteArray) (h : s.size = 0) : nameB s.data.toList = false := by
  have : s.data.toList = [] := by apply List.eq_nil_of_length_eq_zero; simpa using h
  rw [this]; rfl
theorem nameB_at (s : ByteArray) (h : 0 < s.size) : nameB s.data.toList = (decide (s.size ≤ 20) && letB (s[0].toNat : Int) && decide (wl s.data.toList = s.size)) := by
  have h0 := drop_byte s 0 h
  rw [List.drop_zero] at h0
  have hl : s.size = (s.data.toList.drop (0 + 1)).length + 1 := by simp; omega
  have e : nameB s.data.toList = nameB (s[0] :: s.data.toList.drop (0 + 1)) := by rw [← h0]
  rw [e]
  have hw : wl s.data.toList = wl (s[0] :: s.data.toList.drop (0 + 1)) := by rw [← h0]
  rw [hw, hl]
  rfl
theorem size_of_nameB (s : ByteArray) (h : nameB s.data.toList = true) : 0 < s.size ∧ s.size ≤ 20 := by
  by_cases h0 : s.size = 0
  · rw [nameB_nil s h0] at h; cases h
  · rw [nameB_at s (by omega)] at h
    simp only [Bool.and_eq_true, decide_eq_true_eq] at h
    omega
theorem byte_bd (c : UInt8) : 0 ≤ (c.toNat : Int) ∧ (c.toNat : Int) ≤ 255 := by have := c.toNat_lt; omega
end Go.Proofs.YtlnlaopokelggaaGreatDoor
