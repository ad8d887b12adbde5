/- Parts of one proof, joined: Rows of the call's own that hold pairs of integers; the points of a line in 16 parts; counted: what each returns; nothing that was there is turned. The levels of the ground along a line: what levels and Levels return at a valid surface and line; nothing that was there is turned. The program's Distance of points, between, and the ways out of Trench: what each returns; nothing that was there is turned (printed by gen_tr.py). Trench: the ways out with an error: what it returns; nothing that was there is turned (printed by gen_trm.py). -/
import Derived.Test.YtdcdfjinbieblaaGreatDoorPkCostsPipes12
import Derived.Test.YtdcdfjinbieblaaGreatDoorPkCostsPipes8
import Derived.Test.YtdcdfjinbieblaaGreatDoorPkCostsPipes3
namespace Go.Proofs.YtdcdfjinbieblaaGreatDoor
open Go Go.RowKit

section
variable {α : Type} (f g : α → Int)
def flV : List α → List Value
  | [] => []
  | s :: l => .int .i64 (f s) :: .int .i64 (g s) :: flV l
theorem flV_length : ∀ l : List α, (flV f g l).length = l.length * 2
  | [] => rfl
  | s :: l => by simp only [flV, List.length_cons, flV_length l]; omega
theorem flV_append : ∀ (l m : List α), flV f g (l ++ m) = flV f g l ++ flV f g m
  | [], _ => rfl
  | x :: l, m => by simp only [flV, List.cons_append, flV_append l m]
theorem flV_at : ∀ (l : List α) (i : Nat) (h : i < l.length), (flV f g l)[i * 2]? = some (.int .i64 (f l[i])) ∧ (flV f g l)[i * 2 + 1]? = some (.int .i64 (g l[i]))
  | s :: l, 0, _ => by simp [flV]
  | s :: l, i + 1, h => by
    have k := flV_at l i (by simpa using h)
    have e1 : (i + 1) * 2 = (i * 2 + 1) + 1 := by omega
    have e2 : (i + 1) * 2 + 1 = (i * 2 + 1 + 1) + 1 := by omega
    constructor
    · rw [e1]; simpa [flV] using k.1
    · rw [e2]; simpa [flV] using k.2
theorem row_pairs {w : World} {base : Nat} {e : TypeId} {v : Value} {n : Nat} {l : List α} (h : w.ownsRow base e 2 v n (flV f g l)) (hl : 0 < l.length) : ∃ b cap, v = .slice (some ⟨b, 0, none⟩) l.length cap ∧ base ≤ b ∧ b < w.heap.size ∧
    ∀ i (h : i < l.length), w.cell? ⟨b, i * 2, none⟩ = some (.int .i64 (f l[i])) ∧ w.cell? ⟨b, i * 2 + 1, none⟩ = some (.int .i64 (g l[i])) := by
  have hn : l.length = n := by have := h.1; rw [flV_length] at this; omega
  subst hn
  obtain ⟨b, cap, hv, hb, hlt⟩ := h.form hl
  subst hv
  refine ⟨b, cap, rfl, hb, hlt, fun i hi => ?_⟩
  obtain ⟨k1, k2⟩ := flV_at f g l i hi
  exact ⟨(h.cellAt (i * 2) (by omega)).trans k1, (h.cellAt (i * 2 + 1) (by omega)).trans k2⟩
end
theorem point_info48 : (Tryz.prog.info? 68).map (fun i => (i.zero, i.size, i.bytes)) = some (some (.agg #[.int .i64 0, .int .i64 0]), 2, 16) := by kernel_rfl
theorem span_info48 : (Tryz.prog.info? 36).map (fun i => (i.zero, i.size, i.bytes)) = some (some (.agg #[.int .i64 0, .int .i64 0]), 2, 16) := by kernel_rfl
set_option maxHeartbeats 1000000 in
theorem tslev1_any (d : Int) (w : World) : Calls Tryz.prog 147 #[.int .i64 d] w fun e w' => e = .returned (.bool (decide (d < -4194304) || decide (4194304 < d))) ∧ w = w' := by
  have ways : decide (d < -4194304) = true ∨ (decide (d < -4194304) = false) := by cases decide (d < -4194304) <;> simp
  rcases ways with q1 | q1
  all_goals
    rw [q1]
    go_enter Tryz.func147, Tryz.ntmps147
    go_wp2
    go_ret
    exact ⟨ret_bool (by simp), rfl⟩
set_option maxHeartbeats 1000000 in
theorem tslevel_nil (w : World) : Calls Tryz.prog 128 #[.slice none 0 0] w fun e w' => e = .returned (.bool true) ∧ w = w' := by
  have C := hide (contI_any 147 (fun d => decide (d < -4194304) || decide (4194304 < d)) tslev1_any (fun d w => enters_of Tryz.func147 (by kernel_rfl) rfl _ w) [] none 0 w (IntSl.nil w none))
  go_enter Tryz.func128, Tryz.ntmps128
  go_wp2_with fail
  refine C.out.mono ?_
  rintro e w' ⟨rfl, rfl⟩
  go_wp2
  go_ret
  exact ⟨rfl, rfl⟩
set_option maxHeartbeats 2000000 in
theorem tscounted_any (m : Msh) (a : MshA) (bm : Nat) (p q : Pnt) (w : World) (hB : Blk w bm 65 (m.cells a)) (hm : MshSl w m a) (ht : Lib.TabIs Tryz.prog w "internal/strconv.uint64pow10" .u64 Lib.pow10Tab) (hv : vM m = true) (hp : p.in) (hq : q.in) (hne : p ≠ q) :
    Calls Tryz.prog 82 #[.pointer (some ⟨bm, 0, none⟩), p.val, q.val, .int .i64 16, .slice none 0 0] w (RetW (.int .i64 0) w) := by
  have LN := hide (fun W h1 h2 h3 => tsline_any m a bm p q W h1 h2 h3 hv hp hq hne)
  have LV := hide tslevel_nil
  unfold RetW at LN
  have HM := hide hm
  have HT := hide ht
  have HB := hide hB
  have X := ((Own.start w).alloc #[.int .i64 p.x, .int .i64 p.y] 68).alloc #[.int .i64 q.x, .int .i64 q.y] 68
  simp only [World.size_alloc] at X
  have hr := X.r2
  clear hm ht hv hp hq hne hB
  go_enter Tryz.func82, Tryz.ntmps82
  go_wp2_with fail
  refine (LN.out _ (HB.out.below X.1 HB.out.lt) (HM.out.below X.1) (tab_below HT.out X.1)).mono ?_
  rintro e w1 ⟨rfl, hb⟩
  replace X := X.to hb
  clear hr hb
  go_wp2_with fail
  refine (LV.out _).mono ?_
  rintro e w' ⟨rfl, rfl⟩
  go_wp2
  go_ret
  exact ⟨rfl, X.1⟩
/-- the points of a line -/
def ptL (a b : Pnt) (n : Nat) : List Pnt := (List.range n).map (ptA a b)
theorem ptL_succ (a b : Pnt) (n : Nat) : ptL a b (n + 1) = ptL a b n ++ [ptA a b n] := by simp [ptL, List.range_succ]
theorem ptL_len (a b : Pnt) (n : Nat) : (ptL a b n).length = n := by simp [ptL]
/-- a list of points in memory of the call's own -/
def PtsPost (l : List Pnt) (w : World) (e : Ending) (w' : World) : Prop := Below w.heap.size w w' ∧ ∃ (A : Option Addr) (cap : Nat), e = .returned (.slice A l.length cap) ∧ PntSl w' A l
set_option maxRecDepth 100000 in
set_option maxHeartbeats 4000000 in
theorem tspoints_any (a b : Pnt) (w : World) (ha : a.in) (hb : b.in) : Calls Tryz.prog 129 #[a.val, b.val, .int .i64 16] w (PtsPost (ptL a b 17) w) := by
  obtain ⟨i0, hi0, hz0, hz1, hz2⟩ := info_parts point_info48
  have X := ((Own.start w).alloc #[.int .i64 a.x, .int .i64 a.y] 68).alloc #[.int .i64 b.x, .int .i64 b.y] 68
  simp only [World.size_alloc] at X
  have hr := X.r2
  have s17 : IntKind.i64.wrap (16 + 1) = 17 := by decide
  have MK : ∀ W, (Instr.makeSlice 182 (.int .i64 0) (.int .i64 17)).run Tryz.prog W = .ok (.slice (some ⟨W.heap.size, 0, none⟩) 0 17) (W.alloc (.cells (madeCells (Value.agg #[.int .i64 0, .int .i64 0]).cells (17 * i0.size)) 68)) := fun W =>
    run_make_rowN 182 68 i0 (.agg #[.int .i64 0, .int .i64 0]) Tryz.underlying182 hi0 hz0 .i64 .i64 0 17 (by omega) (by rw [hz2]; omega) (by omega) W
  have MS : (madeCells (Value.agg #[.int .i64 0, .int .i64 0]).cells (17 * i0.size)).size = 17 * 2 := by rw [size_madeCells, hz1]
  generalize madeCells (Value.agg #[.int .i64 0, .int .i64 0]).cells (17 * i0.size) = mc at *
  have HA := hide ha
  have HB := hide hb
  have XB := hide X.1
  have HR := hide hr
  clear ha hb
  go_enter Tryz.func129, Tryz.ntmps129
  go_wp2
  have hx : w.heap.size + 1 < ((w.alloc (.cells #[.int .i64 a.x, .int .i64 a.y] 68)).alloc (.cells #[.int .i64 b.x, .int .i64 b.y] 68)).heap.size := by simp
  have hsz : ((w.alloc (.cells #[.int .i64 a.x, .int .i64 a.y] 68)).alloc (.cells #[.int .i64 b.x, .int .i64 b.y] 68)).heap.size = w.heap.size + 1 + 1 := by simp
  have RW := hide (World.ownsRow_made (base := ((w.alloc (.cells #[.int .i64 a.x, .int .i64 a.y] 68)).alloc (.cells #[.int .i64 b.x, .int .i64 b.y] 68)).heap.size) (e := 68) (size := 2) ((w.alloc (.cells #[.int .i64 a.x, .int .i64 a.y] 68)).alloc (.cells #[.int .i64 b.x, .int .i64 b.y] 68)) mc 17 (Nat.le_refl _) (by unfold maxLen; omega) MS)
  have BW := hide ((Below.refl ((w.alloc (.cells #[.int .i64 a.x, .int .i64 a.y] 68)).alloc (.cells #[.int .i64 b.x, .int .i64 b.y] 68)).heap.size ((w.alloc (.cells #[.int .i64 a.x, .int .i64 a.y] 68)).alloc (.cells #[.int .i64 b.x, .int .i64 b.y] 68))).alloc (Nat.le_refl _) (.cells mc 68))
  clear MK MS X hr
  generalize (w.alloc (.cells #[.int .i64 a.x, .int .i64 a.y] 68)).alloc (.cells #[.int .i64 b.x, .int .i64 b.y] 68) = W0 at *
  have XH := hide (And.intro BW.out RW.out)
  clear BW RW
  go_loopw [7, 14] (fun v7 v14 wr => ∃ k : Nat, k ≤ 17 ∧ v14 = .int .i64 (k : Int) ∧ Hid (Below W0.heap.size W0 wr ∧ wr.ownsRow W0.heap.size 68 2 v7 k (flV Pnt.x Pnt.y (ptL a b k)))) (fun _ v14 _ => 17 - (intOf v14).toNat)
  case atStart => exact ⟨0, by omega, rfl, hide ⟨XH.out.1, by have h := XH.out.2; rw [hsz] at h ⊢; exact h⟩⟩
  case round =>
    clear XH
    obtain ⟨k, hk, rfl, HY⟩ := hrel
    by_cases hlt : k < 17
    · have g1 : decide (k < 17) = true := decide_eq_true hlt
      have kk : k ≤ 16 := by omega
      obtain ⟨p1, p2⟩ := ptA_bd HA.out.1 HB.out.1 kk
      obtain ⟨q1, q2⟩ := ptA_bd HA.out.2 HB.out.2 kk
      obtain ⟨⟨a1, a2⟩, a3, a4⟩ := HA.out
      obtain ⟨⟨b1, b2⟩, b3, b4⟩ := HB.out
      have e1 := IntWalk.i64_in (b.x - a.x) (by omega)
      have e2 := IntWalk.i64_in (b.y - a.y) (by omega)
      obtain ⟨u, hu⟩ : ∃ u, u = (b.x - a.x) * (k : Int) := ⟨_, rfl⟩
      obtain ⟨v, hv⟩ : ∃ v, v = (b.y - a.y) * (k : Int) := ⟨_, rfl⟩
      have EP : Hid (ptL a b (k + 1) = ptL a b k ++ [⟨a.x + u / 16, a.y + v / 16⟩]) := hide (by rw [ptL_succ, hu, hv]; rfl)
      have EL := hide (ptL_len a b k)
      rw [← hu] at p1 p2
      rw [← hv] at q1 q2
      have w1 : IntKind.i64.wrap ((b.x - a.x) * (k : Int)) = u := by rw [← hu]; exact IntWalk.i64_in _ (by omega)
      have w2 : IntKind.i64.wrap ((b.y - a.y) * (k : Int)) = v := by rw [← hv]; exact IntWalk.i64_in _ (by omega)
      have F1 := hide (fun W => tsfloor_any u W (by omega))
      have F2 := hide (fun W => tsfloor_any v W (by omega))
      have w3 := IntWalk.i64_in (a.x + u / 16) (by omega)
      have w4 := IntWalk.i64_in (a.y + v / 16) (by omega)
      clear hu hv p1 q1 p2 q2 a1 a2 a3 a4 b1 b2 b3 b4 kk
      generalize ptL a b k = L at *
      generalize u / 16 = u2 at *
      generalize v / 16 = v2 at *
      have CF := hide (fun W (h : Below W0.heap.size W0 W) => And.intro ((h.cell (p := ⟨w.heap.size, 0, none⟩) (by show w.heap.size < W0.heap.size; omega)).trans (HR.out.2.1 0)) (And.intro ((h.cell (p := ⟨w.heap.size, 1, none⟩) (by show w.heap.size < W0.heap.size; omega)).trans (HR.out.2.1 1))
        (And.intro ((h.cell (p := ⟨w.heap.size + 1, 0, none⟩) (by show w.heap.size + 1 < W0.heap.size; omega)).trans (HR.out.1.1 0)) ((h.cell (p := ⟨w.heap.size + 1, 1, none⟩) (by show w.heap.size + 1 < W0.heap.size; omega)).trans (HR.out.1.1 1)))))
      obtain ⟨c0, c1, c2, c3⟩ := CF.out _ HY.out.1
      have wl := HY.out.1.size
      have m1 : ¬ wr.heap.size = w.heap.size := by omega
      have m2 : ¬ wr.heap.size = w.heap.size + 1 := by omega
      go_upto_region 5 with (fail)
      have RO := hide ((row_drew HY.out.2).alloc (.cells #[.int .i64 (a.x + u2), .int .i64 (a.y + v2)] 68))
      have RD : Hid (Reads (wr.drew.alloc (.cells #[.int .i64 (a.x + u2), .int .i64 (a.y + v2)] 68)) (wr.heap.size + 1) 2 (some ⟨wr.heap.size, 0, none⟩) 1 [.int .i64 (a.x + u2), .int .i64 (a.y + v2)]) := hide ⟨rfl, fun _ => ⟨_, rfl, Nat.lt_succ_self _, World.news_of_block (cs := #[.int .i64 (a.x + u2), .int .i64 (a.y + v2)]) (t := 68) (fr := (0, 0)) (heap_alloc_new wr.drew _)⟩⟩
      have f4 : ∀ y ∈ [Value.int .i64 (a.x + u2), .int .i64 (a.y + v2)], y.oneCell' = true := by simp [Value.oneCell']
      have f1 : k + 1 ≤ maxLen := by unfold maxLen; omega
      have f2 : (k + 1) * 16 ≤ 140737488355328 := by omega
      have f3 : W0.heap.size ≤ (wr.drew.alloc (.cells #[.int .i64 (a.x + u2), .int .i64 (a.y + v2)] 68)).heap.size := by rw [World.size_alloc]; show W0.heap.size ≤ wr.heap.size + 1; omega
      have BWA := hide ((HY.out.1.drew).alloc wl (.cells #[.int .i64 (a.x + u2), .int .i64 (a.y + v2)] 68))
      clear HY
      go_region_held3 (fun w' => w'.cell? ⟨w.heap.size, 0, none⟩ = some (.int .i64 a.x) ∧ w'.cell? ⟨w.heap.size, 1, none⟩ = some (.int .i64 a.y) ∧ w'.cell? ⟨w.heap.size + 1, 0, none⟩ = some (.int .i64 b.x) ∧ w'.cell? ⟨w.heap.size + 1, 1, none⟩ = some (.int .i64 b.y)) (go_keep)
        (first
          | (go_at_call 148; (first | (with_reducible refine (F1.out _).mono ?_) | (with_reducible refine (F2.out _).mono ?_)); rintro e w' ⟨rfl, rfl⟩)
          | (refine step_append_any (w := wr.drew.alloc (.cells #[.int .i64 (a.x + u2), .int .i64 (a.y + v2)] 68)) (by rfl) _ _ _ (by rfl) W0.heap.size 68 i0 _ 2 16 Tryz.underlying182 hi0 hz0 hz1 hz2 rfl (by omega) _ k (flV Pnt.x Pnt.y L) (by rfl) RO.out (wr.heap.size + 1) _ _ _ [.int .i64 (a.x + u2), .int .i64 (a.y + v2)] (by rfl) RD.out f4 f1 f2 f3 ?_; intro v4 w4 hown4 hgrow hor; have BW4 := BWA.out.grown hgrow BWA.out.size (fun j hj => (RO.out.lt j hj).1); obtain ⟨d0, d1, d2, d3⟩ := CF.out _ BW4; have HY := hide (And.intro BW4 hown4); clear BW4 hown4 hgrow hor))
      have HZ : Hid (Below W0.heap.size W0 w4 ∧ w4.ownsRow W0.heap.size 68 2 v4 (k + 1) (flV Pnt.x Pnt.y (ptL a b (k + 1)))) := hide ⟨HY.out.1, by rw [EP.out, flV_append]; exact HY.out.2⟩
      clear HY d0 d1 d2 d3
      go_wp2
      go_roundw
      case rel => exact ⟨k + 1, by omega, by go_num, HZ⟩
      case measure => simp [intOf]; omega
    · obtain rfl : k = 17 := by omega
      have B1 := below_via XB.out XB.out.size HY.out.1
      obtain ⟨g, cap, e, hg, hlt2, hat⟩ := row_pairs Pnt.x Pnt.y HY.out.2 (by rw [ptL_len]; omega)
      subst e
      have PS : PntSl wr (some ⟨g, 0, none⟩) (ptL a b 17) := ⟨by rw [ptL_len]; omega, fun _ => ⟨g, 0, rfl, hlt2, fun i hi => by rw [Nat.zero_add]; exact hat i hi⟩⟩
      have HP := hide (show PtsPost (ptL a b 17) w (.returned (.slice (some ⟨g, 0, none⟩) (ptL a b 17).length cap)) wr from ⟨B1, _, cap, rfl, PS⟩)
      clear B1 hat PS HY
      go_wp2
      go_ret
      exact HP.out
end Go.Proofs.YtdcdfjinbieblaaGreatDoor

namespace Go.Proofs.YtdcdfjinbieblaaGreatDoor
open Go Go.RowKit

/-- a slice of spans that reads as a list -/
def SpnSl (w : World) (A : Option Addr) (l : List Sp) : Prop :=
  l.length ≤ 9223372036854775807 ∧ (0 < l.length → ∃ b off, A = some ⟨b, off, none⟩ ∧ b < w.heap.size ∧ ∀ i (h : i < l.length), w.cell? ⟨b, off + i * 2, none⟩ = some (.int .i64 l[i].lo) ∧ w.cell? ⟨b, off + i * 2 + 1, none⟩ = some (.int .i64 l[i].hi))
theorem SpnSl.below {w w' : World} {A : Option Addr} {l : List Sp} (h : SpnSl w A l) (hb : Below w.heap.size w w') : SpnSl w' A l :=
  ⟨h.1, fun hl => by
    obtain ⟨b, off, e, hlt, hat⟩ := h.2 hl
    have k := fun (i : Nat) => hb.cell (p := ⟨b, i, none⟩) hlt
    exact ⟨b, off, e, Nat.lt_of_lt_of_le hlt hb.size, fun i hi => ⟨(k _).trans (hat i hi).1, (k _).trans (hat i hi).2⟩⟩⟩
/-- a list of spans in memory of the call's own, or the error -/
def LvsPost (l : List Sp) (er : Int) (w : World) (e : Ending) (w' : World) : Prop := Below w.heap.size w w' ∧ ∃ (A : Option Addr) (n cap : Nat), e = .returned (.tuple #[.slice A n cap, .int .i64 er]) ∧ (er = 0 → n = l.length ∧ SpnSl w' A l)
theorem lvL_len (m : Msh) (a b : Pnt) (n : Nat) : (lvL m a b n).length = n := by simp [lvL]
def lvE (m : Msh) (a b : Pnt) : Int := if allL m a b 17 = true then 0 else 12
set_option maxRecDepth 100000 in
set_option maxHeartbeats 4000000 in
theorem tslevels_any (m : Msh) (a : MshA) (p q : Pnt) (w : World) (hm : MshSl w m a) (ht : Lib.TabIs Tryz.prog w "internal/strconv.uint64pow10" .u64 Lib.pow10Tab) (hv : vM m = true) (hp : p.in) (hq : q.in) :
    Calls Tryz.prog 83 #[m.val a, p.val, q.val, .int .i64 16] w (LvsPost (lvL m p q 17) (lvE m p q) w) := by
  obtain ⟨i0, hi0, hz0, hz1, hz2⟩ := info_parts span_info48
  have PT := hide (fun W => tspoints_any p q W hp hq)
  have LV := hide (fun W r (hr : r.in) h h' => lclevel_any m a r W h h' hv hr)
  have PI := hide (fun k (hk : k < 17) => (show (ptL p q 17)[k]? = some (ptA p q k) by simp [ptL, hk]))
  have PN := hide (fun k (hk : k < 17) => ptA_in hp hq (k := k) (by omega))
  unfold RetW at LV
  have HM := hide hm
  have HT := hide ht
  obtain ⟨A1, c1, A2, c2⟩ := a
  have X := (((Own.start w).alloc #[.slice A1 m.ss.length c1, .slice A2 m.fs.length c2] 65).alloc #[.int .i64 p.x, .int .i64 p.y] 68).alloc #[.int .i64 q.x, .int .i64 q.y] 68
  simp only [World.size_alloc] at X
  have hr := X.r3
  obtain ⟨P, hP⟩ : ∃ P, P = ptL p q 17 := ⟨_, rfl⟩
  rw [← hP] at PT PI
  have lP : P.length = 17 := by rw [hP, ptL_len]
  clear hm ht hv hp hq hP
  go_enter Tryz.func83, Tryz.ntmps83
  go_wp2_with fail
  refine (PT.out _).mono ?_
  rintro e w2 ⟨hb, A, cap, rfl, PS⟩
  replace X := X.to hb
  clear hr hb
  have hr := X.r3
  have lw := hr.2.2.2.2
  have XB := hide X.1
  have HM2 := hide (HM.out.below X.1)
  have HT2 := hide (tab_below HT.out X.1)
  have HPS := hide PS
  have CM := hide (fun W (h : Below w2.heap.size w2 W) => And.intro ((h.cell (p := ⟨w.heap.size, 0, none⟩) hr.2.2.2.2).trans (hr.2.2.1 0)) ((h.cell (p := ⟨w.heap.size, 1, none⟩) hr.2.2.2.2).trans (hr.2.2.1 1)))
  clear X PS HM HT PT
  go_wp2
  have XH := hide (And.intro (Below.refl w2.heap.size w2) (World.ownsRow_nil w2 w2.heap.size 36 2))
  clear hr
  go_loopw [10, 20] (fun v10 v20 wr => ∃ k : Nat, k ≤ 17 ∧ v20 = .int .i64 (k : Int) ∧ Hid (Below w2.heap.size w2 wr ∧ wr.ownsRow w2.heap.size 36 2 v10 k (flV Sp.lo Sp.hi (lvL m p q k))) ∧ Hid (allL m p q k = true)) (fun _ v20 _ => 17 - (intOf v20).toNat)
  case atStart => exact ⟨0, by omega, rfl, XH, hide rfl⟩
  case round =>
    clear XH
    obtain ⟨k, hk, rfl, HY, HL⟩ := hrel
    obtain ⟨z0, z1⟩ := CM.out _ HY.out.1
    by_cases hlt : k < 17
    · have g1 : decide (k < P.length) = true := decide_eq_true (by omega)
      have g2 : (0 : Int) ≤ (k : Int) := by omega
      have g3 : (k : Int) < (P.length : Int) := by omega
      obtain ⟨b, off, rfl, hbl, hat⟩ := HPS.out.2 (by omega)
      obtain ⟨d0, d1⟩ := hat k (by omega)
      have eP : P[k]'(by omega) = ptA p q k := by
        have := PI.out k hlt
        rw [List.getElem?_eq_getElem (by omega)] at this
        exact Option.some.inj this
      rw [eP] at d0 d1
      replace d0 := (HY.out.1.cell (p := ⟨b, off + k * 2, none⟩) hbl).trans d0
      replace d1 := (HY.out.1.cell (p := ⟨b, off + k * 2 + 1, none⟩) hbl).trans d1
      have LK := hide (fun W h h' => LV.out W (ptA p q k) (PN.out k hlt) h h')
      have ES := hide (allL_succ m p q k)
      have EL := hide (lvL_succ m p q k)
      have EG : Hid (lvG m p q k = (lvA m (ptA p q k)).getD Sp.zero) := hide rfl
      have EN : Hid (lvA m (ptA p q k) = none → lvE m p q = 12) := hide (fun h => by
        unfold lvE
        rw [if_neg]
        intro hc
        have := allL_at hc hlt
        rw [h] at this
        cases this)
      clear hat eP
      generalize ptA p q k = r at *
      generalize lvA m r = o at *
      have wl := HY.out.1.size
      have m0 : ¬ w.heap.size = wr.heap.size := by omega
      have m00 : w.heap.size < wr.heap.size := by omega
      have BA := hide (HY.out.1.alloc wl (.cells #[.int .i64 r.x, .int .i64 r.y] 68))
      have RA := hide (HY.out.2.alloc (.cells #[.int .i64 r.x, .int .i64 r.y] 68))
      have wl2 : w2.heap.size ≤ (wr.alloc (.cells #[.int .i64 r.x, .int .i64 r.y] 68)).heap.size := BA.out.size
      cases o with
      | none =>
        have E12 := hide (EN.out rfl)
        simp only [lvR] at LK
        clear HY EN ES EG EL HL
        go_wp2_with fail
        refine (LK.out _ (HM2.out.below BA.out) (tab_below HT2.out BA.out)).mono ?_
        rintro e w3 ⟨rfl, hb⟩
        have B3 := hide (below_via BA.out wl2 hb)
        clear hb
        have HP := hide (show ∀ o, LvsPost (lvL m p q 17) (lvE m p q) w (.returned (.tuple #[.slice none 0 0, .int .i64 12])) (w3.alloc o) from fun o => ⟨below_via XB.out XB.out.size (B3.out.alloc B3.out.size o), none, 0, 0, by rw [E12.out], fun h => by rw [E12.out] at h; cases h⟩)
        go_wp2
        exact bodyPost_ret (v := .tuple #[.slice none 0 0, .int .i64 12]) (by simp [results, Tryz.results83, go_sem]) rfl (HP.out _)
      | some s =>
        simp only [lvR] at LK
        have EG2 : Hid (lvG m p q k = s) := hide EG.out
        have EA : Hid (allL m p q (k + 1) = true) := hide (by rw [ES.out, HL.out]; rfl)
        obtain ⟨L, hL⟩ : ∃ L, L = lvL m p q k := ⟨_, rfl⟩
        have EL2 : Hid (lvL m p q (k + 1) = L ++ [s]) := hide (by rw [EL.out, EG2.out, hL])
        have lL : Hid (L.length = k) := hide (by rw [hL, lvL_len])
        rw [← hL] at RA
        clear HY EN ES EG EL HL EG2 hL
        go_wp2_with fail
        refine (LK.out _ (HM2.out.below BA.out) (tab_below HT2.out BA.out)).mono ?_
        rintro e w3 ⟨rfl, hb⟩
        have B3 := hide (below_via BA.out wl2 hb)
        have R3 := hide (row_below RA.out hb)
        clear hb BA RA wl2
        have wl3 := B3.out.size
        have B4 := hide ((B3.out.alloc wl3 (.cells #[.int .i64 s.lo, .int .i64 s.hi] 36)).alloc (by rw [World.size_alloc]; omega) (.cells #[.int .i64 s.lo, .int .i64 s.hi] 36))
        have R4 := hide ((R3.out.alloc (.cells #[.int .i64 s.lo, .int .i64 s.hi] 36)).alloc (.cells #[.int .i64 s.lo, .int .i64 s.hi] 36))
        have NW := hide (World.news_of_block (cs := #[.int .i64 s.lo, .int .i64 s.hi]) (t := 36) (fr := (0, 0)) (heap_alloc_new (w3.alloc (.cells #[.int .i64 s.lo, .int .i64 s.hi] 36)) _))
        have f4 : ∀ y ∈ [Value.int .i64 s.lo, .int .i64 s.hi], y.oneCell' = true := by simp [Value.oneCell']
        have f1 : k + 1 ≤ maxLen := by unfold maxLen; omega
        have f2 : (k + 1) * 16 ≤ 140737488355328 := by omega
        have f3 := B4.out.size
        rw [World.size_alloc] at NW
        go_wp2_with (at_builtin; refine wpList_append_own _ rfl _ _ 96 rfl w2.heap.size 36 i0 (.agg #[.int .i64 0, .int .i64 0]) 2 16 Tryz.underlying96 hi0 hz0 hz1 hz2 rfl (by decide) _ k (flV Sp.lo Sp.hi L) rfl R4.out ⟨w3.heap.size + 1, 0, none⟩ 1 1 [.int .i64 s.lo, .int .i64 s.hi] rfl rfl NW.out f4 f1 f2 f3 ?_; intro v5 w5 hown5 hgrow hor)
        have B5 := B4.out.grown hgrow B4.out.size (fun j hj => (R4.out.lt j hj).1)
        have HZ : Hid (Below w2.heap.size w2 w5 ∧ w5.ownsRow w2.heap.size 36 2 v5 (k + 1) (flV Sp.lo Sp.hi (lvL m p q (k + 1)))) := hide ⟨B5, by rw [EL2.out, flV_append]; exact hown5⟩
        clear hown5 hgrow hor B5 B4 R4
        go_roundw
        case rel => exact ⟨k + 1, by omega, by go_num, HZ, EA⟩
        case measure => simp [intOf]; omega
    · obtain rfl : k = 17 := by omega
      have g1 : decide (17 < P.length) = false := decide_eq_false (by omega)
      have E0 : lvE m p q = 0 := by unfold lvE; rw [if_pos HL.out]
      obtain ⟨g, cap', e, hg, hlt2, hat⟩ := row_pairs Sp.lo Sp.hi HY.out.2 (by rw [lvL_len]; omega)
      subst e
      have SS : SpnSl wr (some ⟨g, 0, none⟩) (lvL m p q 17) := ⟨by rw [lvL_len]; omega, fun _ => ⟨g, 0, rfl, hlt2, fun i hi => by rw [Nat.zero_add]; exact hat i hi⟩⟩
      have HP := hide (show LvsPost (lvL m p q 17) (lvE m p q) w (.returned (.tuple #[.slice (some ⟨g, 0, none⟩) (lvL m p q 17).length cap', .int .i64 0])) wr from ⟨below_via XB.out XB.out.size HY.out.1, _, _, cap', by rw [E0], fun _ => ⟨rfl, SS⟩⟩)
      clear hat SS HY E0
      go_wp2
      go_ret2
      exact HP.out
set_option maxHeartbeats 2000000 in
theorem tsLevels_any (m : Msh) (a : MshA) (p q : Pnt) (w : World) (hm : MshSl w m a) (ht : Lib.TabIs Tryz.prog w "internal/strconv.uint64pow10" .u64 Lib.pow10Tab) (hv : vM m = true) (hp : p.in) (hq : q.in) (hne : p ≠ q) :
    Calls Tryz.prog 45 #[m.val a, p.val, q.val, .int .i64 16] w (LvsPost (lvL m p q 17) (lvE m p q) w) := by
  have CT := hide (fun W bm h1 h2 h3 => tscounted_any m a bm p q W h1 h2 h3 hv hp hq hne)
  have LS := hide (fun W h h' => tslevels_any m a p q W h h' hv hp hq)
  unfold RetW at CT
  have HM := hide hm
  have HT := hide ht
  obtain ⟨A1, c1, A2, c2⟩ := a
  have X := (((Own.start w).alloc #[.slice A1 m.ss.length c1, .slice A2 m.fs.length c2] 65).alloc #[.int .i64 p.x, .int .i64 p.y] 68).alloc #[.int .i64 q.x, .int .i64 q.y] 68
  simp only [World.size_alloc] at X
  have hr := X.r3
  clear hm ht hv hp hq hne
  go_enter Tryz.func45, Tryz.ntmps45
  go_wp2_with fail
  refine (CT.out _ _ (X.2 (w.heap.size, 65, #[.slice A1 m.ss.length c1, .slice A2 m.fs.length c2]) (by simp)) (HM.out.below X.1) (tab_below HT.out X.1)).mono ?_
  rintro e w1 ⟨rfl, hb⟩
  replace X := X.to hb
  clear hr hb
  have hr := X.r3
  go_wp2_with fail
  refine (LS.out _ (HM.out.below X.1) (tab_below HT.out X.1)).mono ?_
  rintro e w2 ⟨hb, A, n, cap, rfl, hS⟩
  have HP := hide (show LvsPost (lvL m p q 17) (lvE m p q) w (.returned (.tuple #[.slice A n cap, .int .i64 (lvE m p q)])) w2 from ⟨(X.to hb).1, A, n, cap, rfl, hS⟩)
  clear hb hS X hr
  generalize lvE m p q = er at *
  go_wp2
  go_ret2
  exact HP.out
end Go.Proofs.YtdcdfjinbieblaaGreatDoor

namespace Go.Proofs.YtdcdfjinbieblaaGreatDoor
open Go Go.RowKit

set_option maxRecDepth 100000 in
set_option maxHeartbeats 4000000 in
theorem pldist_any (a b : Pnt) (w : World) (ha : a.in) (hb : b.in) : Calls Tryz.prog 46 #[a.val, b.val] w (RetW (.tuple #[(dsS a b).val, .int .i64 0]) w) := by
  have AL := hide (fun W g (h : PntSl W (some ⟨g, 0, none⟩) [a, b]) => plall_any [a, b] (some ⟨g, 0, none⟩) 2 W h)
  have e1 : [a, b].all inP = true := by simp [inP_iff.2 ha, inP_iff.2 hb]
  rw [e1] at AL
  have SQ := hide (fun W => plsquare_any a b W ha hb)
  obtain ⟨_, s0, s1⟩ := sqD_bd ha hb
  obtain ⟨k0, k1, k2⟩ := isq_bd s0
  have k3 : isq (sqD a b) < 67108863 := sq_lt k0 (by omega) (by omega)
  obtain ⟨n, hn⟩ : ∃ n : Nat, sqD a b = (n : Int) := ⟨(sqD a b).toNat, by omega⟩
  have OF := hide (fun W => wsof_any (n : Int) W ⟨by omega, by omega⟩)
  have RT := hide (fun W => wsroot_any n W (by omega))
  have ED : Hid (dsS a b = ⟨isq (n : Int), isqU (n : Int)⟩) := hide (by rw [← hn]; rfl)
  have EU : Hid (isqU (n : Int) = if isq (n : Int) * isq (n : Int) < (n : Int) then isq (n : Int) + 1 else isq (n : Int)) := hide rfl
  rw [hn] at SQ k0 k1 k2 k3
  rw [ED.out]
  unfold RetW at AL SQ OF RT
  obtain ⟨U, hU⟩ : ∃ U, U = isqU (n : Int) := ⟨_, rfl⟩
  rw [← hU] at EU ⊢
  have n51 : (n : Int) ≤ 2251799813685248 := by omega
  clear ED hU e1 hn s0 s1 k2
  generalize isq (n : Int) = r at *
  obtain ⟨rr, hrr⟩ : ∃ rr, rr = r * r := ⟨_, rfl⟩
  rw [← hrr] at EU k1
  have rr0 : 0 ≤ rr := by rw [hrr]; exact Int.mul_nonneg k0 k0
  have w1 : IntKind.i64.wrap (r * r) = rr := by rw [← hrr]; exact IntWalk.i64_in _ (by omega)
  have w2 := IntWalk.i64_in (r + 1) (by omega)
  have X := (((Own.start w).alloc #[.int .i64 a.x, .int .i64 a.y] 68).alloc #[.int .i64 b.x, .int .i64 b.y] 68).alloc #[.int .i64 0, .int .i64 0] 36
  simp only [World.size_alloc] at X
  have hr := X.r3
  clear hrr ha hb
  unfold WV at *
  generalize (n : Int) / 1152921504606846976 = nh at *
  generalize (n : Int) % 1152921504606846976 = nl at *
  have ways : (rr < (n : Int) ∧ U = r + 1) ∨ (¬ rr < (n : Int) ∧ U = r) := by
    rw [EU.out]
    by_cases h : rr < (n : Int)
    · exact .inl ⟨h, if_pos h⟩
    · exact .inr ⟨h, if_neg h⟩
  clear EU
  show Calls _ _ _ _ (RetW (.tuple #[.agg #[.int .i64 r, .int .i64 U], .int .i64 0]) w)
  rcases ways with ⟨h, e⟩ | ⟨h, e⟩
  all_goals
    rw [e]
    clear e
    go_enter Tryz.func46, Tryz.ntmps46
    go_wp2_with fail
    have Y := X.alloc #[.int .i64 a.x, .int .i64 a.y, .int .i64 b.x, .int .i64 b.y] 68
    simp only [World.size_alloc] at Y
    have PS : PntSl ((((w.alloc (.cells #[.int .i64 a.x, .int .i64 a.y] 68)).alloc (.cells #[.int .i64 b.x, .int .i64 b.y] 68)).alloc (.cells #[.int .i64 0, .int .i64 0] 36)).alloc (.cells #[.int .i64 a.x, .int .i64 a.y, .int .i64 b.x, .int .i64 b.y] 68)) (some ⟨w.heap.size + 1 + 1 + 1, 0, none⟩) [a, b] :=
      ⟨by simp, fun _ => ⟨_, 0, rfl, Y.r1.2.2, fun i hi => by
        have : i = 0 ∨ i = 1 := by simp at hi; omega
        rcases this with rfl | rfl
        · exact ⟨Y.r1.1 0, Y.r1.1 1⟩
        · exact ⟨Y.r1.1 2, Y.r1.1 3⟩⟩⟩
    refine (AL.out _ _ PS).mono ?_
    rintro e w1 ⟨rfl, hb⟩
    replace X := (Y.to hb).tail
    clear hr hb Y PS
    have hr := X.r3
    go_wp2_with fail
    refine (SQ.out _).mono ?_
    rintro e w2 ⟨rfl, hb⟩
    replace X := X.to hb
    clear hr hb
    go_wp2_with fail
    refine (OF.out _).mono ?_
    rintro e w3 ⟨rfl, hb⟩
    replace X := X.to hb
    clear hb
    go_wp2_with fail
    refine (RT.out _).mono ?_
    rintro e w4 ⟨rfl, hb⟩
    replace X := X.to hb
    clear hb
    have hr := X.r3
    have XB := hide X.1
    go_wp2
    exact bodyPost_ret (v := .tuple #[.agg #[.int .i64 r, .int .i64 _], .int .i64 0]) (by simp [results, Tryz.results46, hr, go_sem]) rfl ⟨rfl, by have HX := XB.out; have hz := HX.size; go_grown⟩
set_option maxHeartbeats 1000000 in
theorem cobetween_any (n l h : Int) (w : World) : Calls Tryz.prog 28 #[.int .i64 n, .int .i64 l, .int .i64 h] w fun e w' => e = .returned (.bool (decide (l ≤ n) && decide (n ≤ h))) ∧ w = w' := by
  have ways : decide (l ≤ n) = true ∨ decide (l ≤ n) = false := by cases decide (l ≤ n) <;> simp
  rcases ways with q1 | q1
  all_goals
    rw [q1]
    go_enter Tryz.func28, Tryz.ntmps28
    go_wp2
    go_ret
    exact ⟨ret_bool (by simp), rfl⟩
end Go.Proofs.YtdcdfjinbieblaaGreatDoor

namespace Go.Proofs.YtdcdfjinbieblaaGreatDoor
open Go Go.RowKit

def ErrP (er : Int) (w : World) : Ending → World → Prop := RetW (.tuple #[.agg #[.int .i64 0, .int .i64 0], .int .i64 er]) w
set_option maxRecDepth 100000 in
set_option maxHeartbeats 2000000 in
theorem cotrench_mesh (m : Msh) (a : MshA) (p q : Pnt) (u d wd : Int) (w : World) (hm : MshSl w m a) (ht : Lib.TabIs Tryz.prog w "internal/strconv.uint64pow10" .u64 Lib.pow10Tab) (hv : vM m = false) : Calls Tryz.prog 17 #[m.val a, p.val, q.val, .int .i64 u, .int .i64 d, .int .i64 wd] w (ErrP 1 w) := by
  have MV := hide (fun W h h' => msvalid_any m a W h h')
  rw [hv] at MV
  unfold RetW at MV
  have HM := hide hm
  have HT := hide ht
  obtain ⟨A1, c1, A2, c2⟩ := a
  have X := ((((Own.start w).alloc #[.slice A1 m.ss.length c1, .slice A2 m.fs.length c2] 65).alloc #[.int .i64 p.x, .int .i64 p.y] 68).alloc #[.int .i64 q.x, .int .i64 q.y] 68).alloc #[.int .i64 0, .int .i64 0] 36
  simp only [World.size_alloc] at X
  have hr := X.r4
  clear hm ht hv
  go_enter Tryz.func17, Tryz.ntmps17
  go_wp2_with fail
  refine (MV.out _ (HM.out.below X.1) (tab_below HT.out X.1)).mono ?_
  rintro e w1 ⟨rfl, hb⟩
  replace X := X.to hb
  clear hr hb
  have hr := X.r4
  have XB := hide X.1
  go_wp2
  exact bodyPost_ret (v := .tuple #[.agg #[.int .i64 0, .int .i64 0], .int .i64 1]) (by simp [results, Tryz.results17, hr, go_sem]) rfl ⟨rfl, by have HX := XB.out; have hz := HX.size; go_grown⟩
set_option maxRecDepth 100000 in
set_option maxHeartbeats 2000000 in
theorem cotrench_p (m : Msh) (a : MshA) (p q : Pnt) (u d wd : Int) (w : World) (hm : MshSl w m a) (ht : Lib.TabIs Tryz.prog w "internal/strconv.uint64pow10" .u64 Lib.pow10Tab) (hv : vM m = true) (hp : inP p = false) : Calls Tryz.prog 17 #[m.val a, p.val, q.val, .int .i64 u, .int .i64 d, .int .i64 wd] w (ErrP 1 w) := by
  have P1 := hide (fun W => plvalid_any p W)
  have P2 := hide (fun W => plvalid_any q W)
  rw [hp] at P1
  unfold RetW at P1
  have MV := hide (fun W h h' => msvalid_any m a W h h')
  rw [hv] at MV
  unfold RetW at MV
  have HM := hide hm
  have HT := hide ht
  obtain ⟨A1, c1, A2, c2⟩ := a
  have X := ((((Own.start w).alloc #[.slice A1 m.ss.length c1, .slice A2 m.fs.length c2] 65).alloc #[.int .i64 p.x, .int .i64 p.y] 68).alloc #[.int .i64 q.x, .int .i64 q.y] 68).alloc #[.int .i64 0, .int .i64 0] 36
  simp only [World.size_alloc] at X
  have hr := X.r4
  clear hm ht hv hp P2
  go_enter Tryz.func17, Tryz.ntmps17
  go_wp2_with fail
  refine (MV.out _ (HM.out.below X.1) (tab_below HT.out X.1)).mono ?_
  rintro e w1 ⟨rfl, hb⟩
  replace X := X.to hb
  clear hr hb
  have hr := X.r4
  go_wp2_with fail
  refine (P1.out _).mono ?_
  rintro e w2 ⟨rfl, hb⟩
  replace X := X.to hb
  clear hr hb
  have hr := X.r4
  have XB := hide X.1
  go_wp2
  exact bodyPost_ret (v := .tuple #[.agg #[.int .i64 0, .int .i64 0], .int .i64 1]) (by simp [results, Tryz.results17, hr, go_sem]) rfl ⟨rfl, by have HX := XB.out; have hz := HX.size; go_grown⟩
set_option maxRecDepth 100000 in
set_option maxHeartbeats 2000000 in
theorem cotrench_q (m : Msh) (a : MshA) (p q : Pnt) (u d wd : Int) (w : World) (hm : MshSl w m a) (ht : Lib.TabIs Tryz.prog w "internal/strconv.uint64pow10" .u64 Lib.pow10Tab) (hv : vM m = true) (hp : inP p = true) (hq : inP q = false) : Calls Tryz.prog 17 #[m.val a, p.val, q.val, .int .i64 u, .int .i64 d, .int .i64 wd] w (ErrP 1 w) := by
  have P1 := hide (fun W => plvalid_any p W)
  have P2 := hide (fun W => plvalid_any q W)
  rw [hp] at P1
  rw [hq] at P2
  unfold RetW at P1 P2
  have MV := hide (fun W h h' => msvalid_any m a W h h')
  rw [hv] at MV
  unfold RetW at MV
  have HM := hide hm
  have HT := hide ht
  obtain ⟨A1, c1, A2, c2⟩ := a
  have X := ((((Own.start w).alloc #[.slice A1 m.ss.length c1, .slice A2 m.fs.length c2] 65).alloc #[.int .i64 p.x, .int .i64 p.y] 68).alloc #[.int .i64 q.x, .int .i64 q.y] 68).alloc #[.int .i64 0, .int .i64 0] 36
  simp only [World.size_alloc] at X
  have hr := X.r4
  clear hm ht hv hp hq
  go_enter Tryz.func17, Tryz.ntmps17
  go_wp2_with fail
  refine (MV.out _ (HM.out.below X.1) (tab_below HT.out X.1)).mono ?_
  rintro e w1 ⟨rfl, hb⟩
  replace X := X.to hb
  clear hr hb
  have hr := X.r4
  go_wp2_with fail
  refine (P1.out _).mono ?_
  rintro e w2 ⟨rfl, hb⟩
  replace X := X.to hb
  clear hr hb
  have hr := X.r4
  go_wp2_with fail
  refine (P2.out _).mono ?_
  rintro e w3 ⟨rfl, hb⟩
  replace X := X.to hb
  clear hr hb
  have hr := X.r4
  have XB := hide X.1
  go_wp2
  exact bodyPost_ret (v := .tuple #[.agg #[.int .i64 0, .int .i64 0], .int .i64 1]) (by simp [results, Tryz.results17, hr, go_sem]) rfl ⟨rfl, by have HX := XB.out; have hz := HX.size; go_grown⟩
set_option maxRecDepth 100000 in
set_option maxHeartbeats 2000000 in
theorem cotrench_same (m : Msh) (a : MshA) (p q : Pnt) (u d wd : Int) (w : World) (hm : MshSl w m a) (ht : Lib.TabIs Tryz.prog w "internal/strconv.uint64pow10" .u64 Lib.pow10Tab) (hv : vM m = true) (hp : inP p = true) (hq : p = q) : Calls Tryz.prog 17 #[m.val a, p.val, q.val, .int .i64 u, .int .i64 d, .int .i64 wd] w (ErrP 25 w) := by
  subst hq
  have P1 := hide (fun W => plvalid_any p W)
  rw [hp] at P1
  unfold RetW at P1
  have x1 : (p.x == p.x) = true := by simp
  have x2 : (p.y == p.y) = true := by simp
  have MV := hide (fun W h h' => msvalid_any m a W h h')
  rw [hv] at MV
  unfold RetW at MV
  have HM := hide hm
  have HT := hide ht
  obtain ⟨A1, c1, A2, c2⟩ := a
  have X := ((((Own.start w).alloc #[.slice A1 m.ss.length c1, .slice A2 m.fs.length c2] 65).alloc #[.int .i64 p.x, .int .i64 p.y] 68).alloc #[.int .i64 p.x, .int .i64 p.y] 68).alloc #[.int .i64 0, .int .i64 0] 36
  simp only [World.size_alloc] at X
  have hr := X.r4
  clear hm ht hv hp
  go_enter Tryz.func17, Tryz.ntmps17
  go_wp2_with fail
  refine (MV.out _ (HM.out.below X.1) (tab_below HT.out X.1)).mono ?_
  rintro e w1 ⟨rfl, hb⟩
  replace X := X.to hb
  clear hr hb
  have hr := X.r4
  go_wp2_with fail
  refine (P1.out _).mono ?_
  rintro e w2 ⟨rfl, hb⟩
  replace X := X.to hb
  clear hr hb
  have hr := X.r4
  go_wp2_with fail
  refine (P1.out _).mono ?_
  rintro e w3 ⟨rfl, hb⟩
  replace X := X.to hb
  clear hr hb
  have hr := X.r4
  have XB := hide X.1
  go_wp2
  exact bodyPost_ret (v := .tuple #[.agg #[.int .i64 0, .int .i64 0], .int .i64 25]) (by simp [results, Tryz.results17, hr, go_sem]) rfl ⟨rfl, by have HX := XB.out; have hz := HX.size; go_grown⟩
set_option maxRecDepth 100000 in
set_option maxHeartbeats 8000000 in
theorem cotrench_range (m : Msh) (a : MshA) (p q : Pnt) (u d wd : Int) (w : World) (hm : MshSl w m a) (ht : Lib.TabIs Tryz.prog w "internal/strconv.uint64pow10" .u64 Lib.pow10Tab) (hv : vM m = true) (hp : inP p = true) (hq : inP q = true) (hne : p ≠ q) (hr0 : rngB u d wd = false) : Calls Tryz.prog 17 #[m.val a, p.val, q.val, .int .i64 u, .int .i64 d, .int .i64 wd] w (ErrP 2 w) := by
  have P1 := hide (fun W => plvalid_any p W)
  have P2 := hide (fun W => plvalid_any q W)
  have B1 := hide (fun W => cobetween_any u (-4194304) 4194304 W)
  have B2 := hide (fun W => cobetween_any d (-4194304) 4194304 W)
  have B3 := hide (fun W => cobetween_any wd 1 10000 W)
  rw [hp] at P1
  rw [hq] at P2
  unfold RetW at P1 P2
  have cs : (decide (-4194304 ≤ u) && decide (u ≤ 4194304)) = false ∨ ((decide (-4194304 ≤ u) && decide (u ≤ 4194304)) = true ∧ (decide (-4194304 ≤ d) && decide (d ≤ 4194304)) = false) ∨
      ((decide (-4194304 ≤ u) && decide (u ≤ 4194304)) = true ∧ (decide (-4194304 ≤ d) && decide (d ≤ 4194304)) = true ∧ (decide (1 ≤ wd) && decide (wd ≤ 10000)) = false) := by
    have h : ((decide (-4194304 ≤ u) && decide (u ≤ 4194304)) && (decide (-4194304 ≤ d) && decide (d ≤ 4194304)) && (decide (1 ≤ wd) && decide (wd ≤ 10000))) = false := hr0
    revert h
    cases (decide (-4194304 ≤ u) && decide (u ≤ 4194304)) <;> cases (decide (-4194304 ≤ d) && decide (d ≤ 4194304)) <;> cases (decide (1 ≤ wd) && decide (wd ≤ 10000)) <;> simp
  have ways : (p.x == q.x) = false ∨ ((p.x == q.x) = true ∧ (p.y == q.y) = false) := by
    cases h1 : (p.x == q.x) <;> cases h2 : (p.y == q.y) <;> simp_all
    exact hne (by cases p; cases q; simp_all)
  have MV := hide (fun W h h' => msvalid_any m a W h h')
  rw [hv] at MV
  unfold RetW at MV
  have HM := hide hm
  have HT := hide ht
  obtain ⟨A1, c1, A2, c2⟩ := a
  have X := ((((Own.start w).alloc #[.slice A1 m.ss.length c1, .slice A2 m.fs.length c2] 65).alloc #[.int .i64 p.x, .int .i64 p.y] 68).alloc #[.int .i64 q.x, .int .i64 q.y] 68).alloc #[.int .i64 0, .int .i64 0] 36
  simp only [World.size_alloc] at X
  have hr := X.r4
  clear hm ht hv hp hq hne hr0
  generalize (decide (-4194304 ≤ u) && decide (u ≤ 4194304)) = b1 at *
  generalize (decide (-4194304 ≤ d) && decide (d ≤ 4194304)) = b2 at *
  generalize (decide (1 ≤ wd) && decide (wd ≤ 10000)) = b3 at *
  rcases cs with rfl | ⟨rfl, rfl⟩ | ⟨rfl, rfl, rfl⟩
  · rcases ways with q1 | ⟨q1, q2⟩
    all_goals
      go_enter Tryz.func17, Tryz.ntmps17
      go_wp2_with fail
      refine (MV.out _ (HM.out.below X.1) (tab_below HT.out X.1)).mono ?_
      rintro e w1 ⟨rfl, hb⟩
      replace X := X.to hb
      clear hr hb
      have hr := X.r4
      go_wp2_with fail
      refine (P1.out _).mono ?_
      rintro e w2 ⟨rfl, hb⟩
      replace X := X.to hb
      clear hr hb
      have hr := X.r4
      go_wp2_with fail
      refine (P2.out _).mono ?_
      rintro e w3 ⟨rfl, hb⟩
      replace X := X.to hb
      clear hr hb
      have hr := X.r4
      go_wp2_with fail
      refine (B1.out _).mono ?_
      rintro e w' ⟨rfl, rfl⟩
      have XB := hide X.1
      go_wp2
      exact bodyPost_ret (v := .tuple #[.agg #[.int .i64 0, .int .i64 0], .int .i64 2]) (by simp [results, Tryz.results17, hr, go_sem]) rfl ⟨rfl, by have HX := XB.out; have hz := HX.size; go_grown⟩
  · rcases ways with q1 | ⟨q1, q2⟩
    all_goals
      go_enter Tryz.func17, Tryz.ntmps17
      go_wp2_with fail
      refine (MV.out _ (HM.out.below X.1) (tab_below HT.out X.1)).mono ?_
      rintro e w1 ⟨rfl, hb⟩
      replace X := X.to hb
      clear hr hb
      have hr := X.r4
      go_wp2_with fail
      refine (P1.out _).mono ?_
      rintro e w2 ⟨rfl, hb⟩
      replace X := X.to hb
      clear hr hb
      have hr := X.r4
      go_wp2_with fail
      refine (P2.out _).mono ?_
      rintro e w3 ⟨rfl, hb⟩
      replace X := X.to hb
      clear hr hb
      have hr := X.r4
      go_wp2_with fail
      refine (B1.out _).mono ?_
      rintro e w' ⟨rfl, rfl⟩
      go_wp2_with fail
      refine (B2.out _).mono ?_
      rintro e w' ⟨rfl, rfl⟩
      have XB := hide X.1
      go_wp2
      exact bodyPost_ret (v := .tuple #[.agg #[.int .i64 0, .int .i64 0], .int .i64 2]) (by simp [results, Tryz.results17, hr, go_sem]) rfl ⟨rfl, by have HX := XB.out; have hz := HX.size; go_grown⟩
  · rcases ways with q1 | ⟨q1, q2⟩
    all_goals
      go_enter Tryz.func17, Tryz.ntmps17
      go_wp2_with fail
      refine (MV.out _ (HM.out.below X.1) (tab_below HT.out X.1)).mono ?_
      rintro e w1 ⟨rfl, hb⟩
      replace X := X.to hb
      clear hr hb
      have hr := X.r4
      go_wp2_with fail
      refine (P1.out _).mono ?_
      rintro e w2 ⟨rfl, hb⟩
      replace X := X.to hb
      clear hr hb
      have hr := X.r4
      go_wp2_with fail
      refine (P2.out _).mono ?_
      rintro e w3 ⟨rfl, hb⟩
      replace X := X.to hb
      clear hr hb
      have hr := X.r4
      go_wp2_with fail
      refine (B1.out _).mono ?_
      rintro e w' ⟨rfl, rfl⟩
      go_wp2_with fail
      refine (B2.out _).mono ?_
      rintro e w' ⟨rfl, rfl⟩
      go_wp2_with fail
      refine (B3.out _).mono ?_
      rintro e w' ⟨rfl, rfl⟩
      have XB := hide X.1
      go_wp2
      exact bodyPost_ret (v := .tuple #[.agg #[.int .i64 0, .int .i64 0], .int .i64 2]) (by simp [results, Tryz.results17, hr, go_sem]) rfl ⟨rfl, by have HX := XB.out; have hz := HX.size; go_grown⟩
end Go.Proofs.YtdcdfjinbieblaaGreatDoor
