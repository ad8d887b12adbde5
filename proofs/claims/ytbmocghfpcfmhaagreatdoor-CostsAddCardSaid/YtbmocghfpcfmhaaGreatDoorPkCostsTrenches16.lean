/- Parts of one proof, joined: The level of a point: what Exact and Level return at a valid surface and point; nothing that was there is turned. The program's floor, line and counted of lines on a surface, and the points of a line in 16 parts: what each returns; nothing that was there is turned. Rows of the call's own that hold pairs of integers; the points of a line in 16 parts; counted: what each returns; nothing that was there is turned. The levels of the ground along a line: what levels and Levels return at a valid surface and line; nothing that was there is turned. -/
import Derived.Test.YtbmocghfpcfmhaaGreatDoorPkCostsTrenches14
import Derived.Deep.RegionHeld3
import Derived.Deep.Cut
import Derived.Test.YtbmocghfpcfmhaaGreatDoorPkCostsTrenches10
namespace Go.Proofs.YtbmocghfpcfmhaaGreatDoor
open Go Go.RowKit

def exR (m : Msh) (p : Pnt) : Int × Int × Int := match fdA m p with | some i => (numA m.ss (fcA m.fs i) p, denA m.ss (fcA m.fs i), 0) | none => (0, 0, 12)
set_option maxHeartbeats 2000000 in
theorem lcExact_any (m : Msh) (a : MshA) (p : Pnt) (w : World) (hm : MshSl w m a) (ht : Lib.TabIs Tryz.prog w "internal/strconv.uint64pow10" .u64 Lib.pow10Tab) (hv : vM m = true) (hp : p.in) :
    Calls Tryz.prog 138 #[m.val a, p.val] w (RetW (.tuple #[WV (exR m p).1, .int .i64 (exR m p).2.1, .int .i64 (exR m p).2.2]) w) := by
  have ON := hide (fun W h h' => lcon_any m a p W h h' hv hp)
  have EX := hide (fun W k (hk : k < m.fs.length) h => lcexact_any m a k p W h hk (okF_of hv hk) hp)
  have HM := hide hm
  have HT := hide ht
  unfold RetW at ON EX
  have ways : (∃ k : Nat, ∃ hk : k < m.fs.length, fdA m p = some k ∧ exR m p = (numA m.ss m.fs[k] p, denA m.ss m.fs[k], 0)) ∨ (fdA m p = none ∧ exR m p = (0, 0, 12)) := by
    unfold exR
    cases e : fdA m p with
    | some k =>
      obtain ⟨hk, _⟩ := fdA_some.1 e
      exact .inl ⟨k, hk, rfl, by simp [fcA, hk]⟩
    | none => exact .inr ⟨rfl, rfl⟩
  obtain ⟨A1, c1, A2, c2⟩ := a
  have X := (((Own.start w).alloc #[.slice A1 m.ss.length c1, .slice A2 m.fs.length c2] 25).alloc #[.int .i64 p.x, .int .i64 p.y] 27).alloc #[.int .i64 0, .int .i64 0] 84
  simp only [World.size_alloc] at X
  have hr := X.r3
  clear hm ht hv hp
  rcases ways with ⟨k, hk, ef, er⟩ | ⟨ef, er⟩
  · have EXk := hide (fun W h => EX.out W k hk h)
    rw [ef] at ON
    rw [er]
    clear EX ef er
    generalize numA m.ss m.fs[k] p = N at *
    generalize denA m.ss m.fs[k] = D at *
    show Calls _ _ _ _ (RetW (.tuple #[WV N, .int .i64 D, .int .i64 0]) w)
    unfold WV at *
    generalize N / 1152921504606846976 = Nh at *
    generalize N % 1152921504606846976 = Nl at *
    simp only [onR] at ON
    go_enter Tryz.func138, Tryz.ntmps138
    go_wp2_with fail
    refine (ON.out _ (HM.out.below X.1) (tab_below HT.out X.1)).mono ?_
    rintro e w1 ⟨rfl, hb⟩
    replace X := X.to hb
    clear hr hb
    have hr := X.r3
    go_wp2_with fail
    refine (EXk.out _ (HM.out.below X.1)).mono ?_
    rintro e w2 ⟨rfl, hb⟩
    replace X := X.to hb
    clear hr hb
    have hr := X.r3
    go_wp2
    refine bodyPost_ret (v := .tuple #[.agg #[.int .i64 Nh, .int .i64 Nl], .int .i64 D, .int .i64 0]) (by simp [results, Tryz.results138, hr, go_sem]) rfl ⟨rfl, ?_⟩
    exact below_set (below_set X.1 (by omega) _) (by omega) _
  · rw [ef] at ON
    rw [er]
    clear EX ef er
    show Calls _ _ _ _ (RetW (.tuple #[.agg #[.int .i64 0, .int .i64 0], .int .i64 0, .int .i64 12]) w)
    simp only [onR] at ON
    go_enter Tryz.func138, Tryz.ntmps138
    go_wp2_with fail
    refine (ON.out _ (HM.out.below X.1) (tab_below HT.out X.1)).mono ?_
    rintro e w1 ⟨rfl, hb⟩
    replace X := X.to hb
    clear hr hb
    have hr := X.r3
    go_wp2
    refine bodyPost_ret (v := .tuple #[.agg #[.int .i64 0, .int .i64 0], .int .i64 0, .int .i64 12]) (by simp [results, Tryz.results138, hr, go_sem]) rfl ⟨rfl, ?_⟩
    first
    | exact below_set (below_set X.1 (by omega) _) (by omega) _
    | exact X.1
def lvR (o : Option Sp) : Sp × Int := match o with | some s => (s, 0) | none => (Sp.zero, 12)
set_option maxHeartbeats 2000000 in
theorem lclevel_any (m : Msh) (a : MshA) (p : Pnt) (w : World) (hm : MshSl w m a) (ht : Lib.TabIs Tryz.prog w "internal/strconv.uint64pow10" .u64 Lib.pow10Tab) (hv : vM m = true) (hp : p.in) :
    Calls Tryz.prog 109 #[m.val a, p.val] w (RetW (.tuple #[(lvR (lvA m p)).1.val, .int .i64 (lvR (lvA m p)).2]) w) := by
  have EX := hide (fun W h h' => lcExact_any m a p W h h' hv hp)
  have HM := hide hm
  have HT := hide ht
  unfold RetW at EX
  have ways : (∃ N D : Int, wideB N ∧ 0 < D ∧ D ≤ 2251799813685248 ∧ exR m p = (N, D, 0) ∧ lvR (lvA m p) = (⟨dn N D, up N D⟩, 0) ∧ i64B (dn N D) = true ∧ i64B (up N D) = true) ∨ (exR m p = (0, 0, 12) ∧ lvR (lvA m p) = (Sp.zero, 12)) := by
    unfold exR lvA
    cases e : fdA m p with
    | none => exact .inr ⟨rfl, rfl⟩
    | some k =>
      obtain ⟨hk, ho, _⟩ := fdA_some.1 e
      have ef : fcA m.fs k = m.fs[k] := by simp [fcA, hk]
      have OF := onF_of (okF_of hv hk) ho
      have nb := OF.num
      have db := OF.d
      have de := trn_bd2 OF.i.1 OF.i.2.1 OF.i.2.2
      have lb := OF.lv
      have hD : denA m.ss m.fs[k] ≤ 2251799813685248 := de.2
      refine .inl ⟨numA m.ss m.fs[k] p, denA m.ss m.fs[k], ⟨by omega, by omega⟩, db, hD, by simp only [ef], by simp only [Option.map_some, lvR, lvS, ef], ?_, ?_⟩
      · rw [i64B_iff]
        have l1 : -4194304 ≤ dn (numA m.ss m.fs[k] p) (denA m.ss m.fs[k]) ∧ dn (numA m.ss m.fs[k] p) (denA m.ss m.fs[k]) ≤ 4194304 := lb.1
        omega
      · rw [i64B_iff]
        have l1 : -4194304 ≤ up (numA m.ss m.fs[k] p) (denA m.ss m.fs[k]) ∧ up (numA m.ss m.fs[k] p) (denA m.ss m.fs[k]) ≤ 4194304 := lb.2.1
        omega
  obtain ⟨A1, c1, A2, c2⟩ := a
  have X := (((Own.start w).alloc #[.slice A1 m.ss.length c1, .slice A2 m.fs.length c2] 25).alloc #[.int .i64 p.x, .int .i64 p.y] 27).alloc #[.int .i64 0, .int .i64 0] 31
  simp only [World.size_alloc] at X
  have hr := X.r3
  clear hm ht hv hp
  rcases ways with ⟨N, D, hN, hD0, hD1, ee, er, b1, b2⟩ | ⟨ee, er⟩
  · have FL := hide (fun W => wsfloor_any N D W hN (by omega) ⟨by omega, by omega⟩)
    have CL := hide (fun W => wsceil_any N D W hN (by omega) ⟨by omega, by omega⟩)
    unfold RetW at FL CL
    rw [(i64_yes b1).1, (i64_yes b1).2] at FL
    rw [(i64_yes b2).1, (i64_yes b2).2] at CL
    rw [ee] at EX
    rw [er]
    clear ee er b1 b2 hN hD0 hD1
    show Calls _ _ _ _ (RetW (.tuple #[.agg #[.int .i64 (dn N D), .int .i64 (up N D)], .int .i64 0]) w)
    simp only at EX
    unfold WV at *
    generalize dn N D = lo at *
    generalize up N D = hi at *
    generalize N / 1152921504606846976 = Nh at *
    generalize N % 1152921504606846976 = Nl at *
    go_enter Tryz.func109, Tryz.ntmps109
    go_wp2_with fail
    refine (EX.out _ (HM.out.below X.1) (tab_below HT.out X.1)).mono ?_
    rintro e w1 ⟨rfl, hb⟩
    replace X := (X.to hb).alloc #[.int .i64 Nh, .int .i64 Nl] 84
    clear hr hb
    have hr := X.r4
    go_wp2_with fail
    refine (FL.out _).mono ?_
    rintro e w2 ⟨rfl, hb⟩
    replace X := X.to hb
    clear hr hb
    have hr := X.r4
    go_wp2_with fail
    refine (CL.out _).mono ?_
    rintro e w3 ⟨rfl, hb⟩
    replace X := X.to hb
    clear hr hb
    have hr := X.r4
    go_wp2
    refine bodyPost_ret (v := .tuple #[.agg #[.int .i64 lo, .int .i64 hi], .int .i64 0]) (by simp [results, Tryz.results109, hr, go_sem]) rfl ⟨rfl, ?_⟩
    exact below_set (below_set X.1 (by omega) _) (by omega) _
  · rw [ee] at EX
    rw [er]
    clear ee er
    show Calls _ _ _ _ (RetW (.tuple #[.agg #[.int .i64 0, .int .i64 0], .int .i64 12]) w)
    simp only at EX
    have e00 : (0 : Int) / 1152921504606846976 = 0 := by decide
    have e01 : (0 : Int) % 1152921504606846976 = 0 := by decide
    unfold WV at *
    rw [e00, e01] at EX
    clear e00 e01
    go_enter Tryz.func109, Tryz.ntmps109
    go_wp2_with fail
    refine (EX.out _ (HM.out.below X.1) (tab_below HT.out X.1)).mono ?_
    rintro e w1 ⟨rfl, hb⟩
    replace X := (X.to hb).alloc #[.int .i64 0, .int .i64 0] 84
    clear hr hb
    have hr := X.r4
    go_wp2
    refine bodyPost_ret (v := .tuple #[.agg #[.int .i64 0, .int .i64 0], .int .i64 12]) (by simp [results, Tryz.results109, hr, go_sem]) rfl ⟨rfl, ?_⟩
    first
    | exact below_set (below_set X.1 (by omega) _) (by omega) _
    | exact X.1
end Go.Proofs.YtbmocghfpcfmhaaGreatDoor

namespace Go.Proofs.YtbmocghfpcfmhaaGreatDoor
open Go Go.RowKit

theorem floor16 {n q r : Int} (hq : q = n.tdiv 16) (hr : r = n.tmod 16) : (r < 0 → n / 16 = q - 1) ∧ (¬ r < 0 → n / 16 = q) := by
  have e := Int.mul_tdiv_add_tmod n 16
  have r1 : n.tmod 16 < 16 := Int.tmod_lt_of_pos n (by omega)
  have r2 : -16 < n.tmod 16 := by
    rcases Int.lt_or_le n 0 with h | h
    · have h3 := Int.tmod_lt_of_pos (-n) (show (0 : Int) < 16 by omega)
      rw [Int.neg_tmod] at h3
      omega
    · have := Int.tmod_nonneg 16 h
      omega
  rw [← hq, ← hr] at e
  rw [← hr] at r1 r2
  omega
set_option maxHeartbeats 1000000 in
theorem tsfloor_any (n : Int) (w : World) (hn : -1073741824 ≤ n ∧ n ≤ 1073741824) : Calls Tryz.prog 137 #[.int .i64 n, .int .i64 16] w (fun e w' => e = .returned (.int .i64 (n / 16)) ∧ w = w') := by
  obtain ⟨q, hq⟩ : ∃ q, q = n.tdiv 16 := ⟨_, rfl⟩
  obtain ⟨r, hr⟩ : ∃ r, r = n.tmod 16 := ⟨_, rfl⟩
  obtain ⟨f1, f2⟩ := floor16 hq hr
  by_cases h : r < 0
  · have e := f1 h
    rw [e]
    have w1 : IntKind.i64.wrap (n.tdiv 16) = q := by rw [← hq]; exact IntWalk.i64_in _ (by omega)
    have w2 : n.tmod 16 = r := hr.symm
    have w4 : IntKind.i64.wrap (q - 1) = q - 1 := IntWalk.i64_in _ (by omega)
    have g : decide (r < 0) = true := decide_eq_true h
    clear f1 f2 e h hq hr
    go_enter Tryz.func137, Tryz.ntmps137
    go_wp2
    go_ret
    exact ⟨rfl, rfl⟩
  · have e := f2 h
    rw [e]
    have w1 : IntKind.i64.wrap (n.tdiv 16) = q := by rw [← hq]; exact IntWalk.i64_in _ (by omega)
    have w2 : n.tmod 16 = r := hr.symm
    have g : decide (r < 0) = false := decide_eq_false h
    clear f1 f2 e h hq hr
    go_enter Tryz.func137, Tryz.ntmps137
    go_wp2
    go_ret
    exact ⟨rfl, rfl⟩
set_option maxHeartbeats 2000000 in
/-- line at a valid surface that lies in a box, two valid points that are not the same -/
theorem tsline_any (m : Msh) (a : MshA) (bm : Nat) (p q : Pnt) (w : World) (hB : Blk w bm 25 (m.cells a)) (hm : MshSl w m a) (ht : Lib.TabIs Tryz.prog w "internal/strconv.uint64pow10" .u64 Lib.pow10Tab) (hv : vM m = true) (hp : p.in) (hq : q.in) (hne : p ≠ q) :
    Calls Tryz.prog 106 #[.pointer (some ⟨bm, 0, none⟩), p.val, q.val] w (RetW (.int .i64 0) w) := by
  have MV := hide (fun W h h' => msvalid_any m a W h h')
  rw [hv] at MV
  have P1 := hide (fun W => plvalid_any p W)
  have P2 := hide (fun W => plvalid_any q W)
  rw [inP_iff.2 hp] at P1
  rw [inP_iff.2 hq] at P2
  unfold RetW at MV P1 P2
  have HM := hide hm
  have HT := hide ht
  have nb := hB.lt
  obtain ⟨A1, c1, A2, c2⟩ := a
  have X := ((show Own w w [(bm, 25, #[.slice A1 m.ss.length c1, .slice A2 m.fs.length c2])] from ⟨Below.refl _ _, fun x hx => by rw [List.mem_singleton.1 hx]; exact hB⟩).alloc #[.int .i64 p.x, .int .i64 p.y] 27).alloc #[.int .i64 q.x, .int .i64 q.y] 27
  simp only [World.size_alloc] at X
  have hr := X.r3
  have hrB := hB.rules
  have n1 : ¬ bm = w.heap.size := by omega
  have n2 : ¬ bm = w.heap.size + 1 := by omega
  have ne : (decide (p.x = q.x) && decide (p.y = q.y)) = false := by
    cases h1 : decide (p.x = q.x) <;> cases h2 : decide (p.y = q.y) <;> simp
    exact hne (by cases p; cases q; simp_all)
  clear hm ht hv hp hq hne hB
  have ways : (p.x == q.x) = false ∨ ((p.x == q.x) = true ∧ (p.y == q.y) = false) := by
    have e1 : (p.x == q.x) = decide (p.x = q.x) := by rw [Bool.eq_iff_iff]; simp
    have e2 : (p.y == q.y) = decide (p.y = q.y) := by rw [Bool.eq_iff_iff]; simp
    rw [e1, e2]
    cases h1 : decide (p.x = q.x) <;> cases h2 : decide (p.y = q.y) <;> simp_all
  clear ne
  rcases ways with q1 | ⟨q1, q2⟩
  all_goals
    go_enter Tryz.func106, Tryz.ntmps106
    go_wp2_with fail
    refine (MV.out _ (HM.out.below X.1) (tab_below HT.out X.1)).mono ?_
    rintro e w1 ⟨rfl, hb⟩
    replace X := X.to hb
    clear hr hb hrB
    have hr := X.r3
    go_wp2_with fail
    refine (P1.out _).mono ?_
    rintro e w2 ⟨rfl, hb⟩
    replace X := X.to hb
    clear hr hb
    have hr := X.r3
    go_wp2_with fail
    refine (P2.out _).mono ?_
    rintro e w3 ⟨rfl, hb⟩
    replace X := X.to hb
    clear hr hb
    have hr := X.r3
    go_wp2
    go_ret
    exact ⟨rfl, X.1⟩
end Go.Proofs.YtbmocghfpcfmhaaGreatDoor

namespace Go.Proofs.YtbmocghfpcfmhaaGreatDoor
open Go Go.RowKit

section
variable {α : Type} (f g : α → Int)
def flV : List α → List Value
  | [] => []
  | s :: l => .int .i64 (f s) :: .int .i64 (g s) :: flV l
theorem flV_length : ∀ l : List α, (flV f g l).length = l.length * 2
  | [] => rfl
  | s :: l => by simp only [flV, List.length_cons, flV_length l]; omega
theorem flV_append : ∀ (l m : List α), flV f g (l ++ m) = flV f g l ++ flV f g m
  | [], _ => rfl
  | x :: l, m => by simp only [flV, List.cons_append, flV_append l m]
theorem flV_at : ∀ (l : List α) (i : Nat) (h : i < l.length), (flV f g l)[i * 2]? = some (.int .i64 (f l[i])) ∧ (flV f g l)[i * 2 + 1]? = some (.int .i64 (g l[i]))
  | s :: l, 0, _ => by simp [flV]
  | s :: l, i + 1, h => by
    have k := flV_at l i (by simpa using h)
    have e1 : (i + 1) * 2 = (i * 2 + 1) + 1 := by omega
    have e2 : (i + 1) * 2 + 1 = (i * 2 + 1 + 1) + 1 := by omega
    constructor
    · rw [e1]; simpa [flV] using k.1
    · rw [e2]; simpa [flV] using k.2
theorem row_pairs {w : World} {base : Nat} {e : TypeId} {v : Value} {n : Nat} {l : List α} (h : w.ownsRow base e 2 v n (flV f g l)) (hl : 0 < l.length) : ∃ b cap, v = .slice (some ⟨b, 0, none⟩) l.length cap ∧ base ≤ b ∧ b < w.heap.size ∧
    ∀ i (h : i < l.length), w.cell? ⟨b, i * 2, none⟩ = some (.int .i64 (f l[i])) ∧ w.cell? ⟨b, i * 2 + 1, none⟩ = some (.int .i64 (g l[i])) := by
  have hn : l.length = n := by have := h.1; rw [flV_length] at this; omega
  subst hn
  obtain ⟨b, cap, hv, hb, hlt⟩ := h.form hl
  subst hv
  refine ⟨b, cap, rfl, hb, hlt, fun i hi => ?_⟩
  obtain ⟨k1, k2⟩ := flV_at f g l i hi
  exact ⟨(h.cellAt (i * 2) (by omega)).trans k1, (h.cellAt (i * 2 + 1) (by omega)).trans k2⟩
end
theorem point_info48 : (Tryz.prog.info? 27).map (fun i => (i.zero, i.size, i.bytes)) = some (some (.agg #[.int .i64 0, .int .i64 0]), 2, 16) := by kernel_rfl
theorem span_info48 : (Tryz.prog.info? 31).map (fun i => (i.zero, i.size, i.bytes)) = some (some (.agg #[.int .i64 0, .int .i64 0]), 2, 16) := by kernel_rfl
set_option maxHeartbeats 1000000 in
theorem tslev1_any (d : Int) (w : World) : Calls Tryz.prog 136 #[.int .i64 d] w fun e w' => e = .returned (.bool (decide (d < -4194304) || decide (4194304 < d))) ∧ w = w' := by
  have ways : decide (d < -4194304) = true ∨ (decide (d < -4194304) = false) := by cases decide (d < -4194304) <;> simp
  rcases ways with q1 | q1
  all_goals
    rw [q1]
    go_enter Tryz.func136, Tryz.ntmps136
    go_wp2
    go_ret
    exact ⟨ret_bool (by simp), rfl⟩
set_option maxHeartbeats 1000000 in
theorem tslevel_nil (w : World) : Calls Tryz.prog 107 #[.slice none 0 0] w fun e w' => e = .returned (.bool true) ∧ w = w' := by
  have C := hide (contI_any 136 (fun d => decide (d < -4194304) || decide (4194304 < d)) tslev1_any (fun d w => enters_of Tryz.func136 (by kernel_rfl) rfl _ w) [] none 0 w (IntSl.nil w none))
  go_enter Tryz.func107, Tryz.ntmps107
  go_wp2_with fail
  refine C.out.mono ?_
  rintro e w' ⟨rfl, rfl⟩
  go_wp2
  go_ret
  exact ⟨rfl, rfl⟩
set_option maxHeartbeats 2000000 in
theorem tscounted_any (m : Msh) (a : MshA) (bm : Nat) (p q : Pnt) (w : World) (hB : Blk w bm 25 (m.cells a)) (hm : MshSl w m a) (ht : Lib.TabIs Tryz.prog w "internal/strconv.uint64pow10" .u64 Lib.pow10Tab) (hv : vM m = true) (hp : p.in) (hq : q.in) (hne : p ≠ q) :
    Calls Tryz.prog 54 #[.pointer (some ⟨bm, 0, none⟩), p.val, q.val, .int .i64 16, .slice none 0 0] w (RetW (.int .i64 0) w) := by
  have LN := hide (fun W h1 h2 h3 => tsline_any m a bm p q W h1 h2 h3 hv hp hq hne)
  have LV := hide tslevel_nil
  unfold RetW at LN
  have HM := hide hm
  have HT := hide ht
  have HB := hide hB
  have X := ((Own.start w).alloc #[.int .i64 p.x, .int .i64 p.y] 27).alloc #[.int .i64 q.x, .int .i64 q.y] 27
  simp only [World.size_alloc] at X
  have hr := X.r2
  clear hm ht hv hp hq hne hB
  go_enter Tryz.func54, Tryz.ntmps54
  go_wp2_with fail
  refine (LN.out _ (HB.out.below X.1 HB.out.lt) (HM.out.below X.1) (tab_below HT.out X.1)).mono ?_
  rintro e w1 ⟨rfl, hb⟩
  replace X := X.to hb
  clear hr hb
  go_wp2_with fail
  refine (LV.out _).mono ?_
  rintro e w' ⟨rfl, rfl⟩
  go_wp2
  go_ret
  exact ⟨rfl, X.1⟩
/-- the points of a line -/
def ptL (a b : Pnt) (n : Nat) : List Pnt := (List.range n).map (ptA a b)
theorem ptL_succ (a b : Pnt) (n : Nat) : ptL a b (n + 1) = ptL a b n ++ [ptA a b n] := by simp [ptL, List.range_succ]
theorem ptL_len (a b : Pnt) (n : Nat) : (ptL a b n).length = n := by simp [ptL]
/-- a list of points in memory of the call's own -/
def PtsPost (l : List Pnt) (w : World) (e : Ending) (w' : World) : Prop := Below w.heap.size w w' ∧ ∃ (A : Option Addr) (cap : Nat), e = .returned (.slice A l.length cap) ∧ PntSl w' A l
set_option maxRecDepth 100000 in
set_option maxHeartbeats 4000000 in
theorem tspoints_any (a b : Pnt) (w : World) (ha : a.in) (hb : b.in) : Calls Tryz.prog 108 #[a.val, b.val, .int .i64 16] w (PtsPost (ptL a b 17) w) := by
  obtain ⟨i0, hi0, hz0, hz1, hz2⟩ := info_parts point_info48
  have X := ((Own.start w).alloc #[.int .i64 a.x, .int .i64 a.y] 27).alloc #[.int .i64 b.x, .int .i64 b.y] 27
  simp only [World.size_alloc] at X
  have hr := X.r2
  have s17 : IntKind.i64.wrap (16 + 1) = 17 := by decide
  have MK : ∀ W, (Instr.makeSlice 157 (.int .i64 0) (.int .i64 17)).run Tryz.prog W = .ok (.slice (some ⟨W.heap.size, 0, none⟩) 0 17) (W.alloc (.cells (madeCells (Value.agg #[.int .i64 0, .int .i64 0]).cells (17 * i0.size)) 27)) := fun W =>
    run_make_rowN 157 27 i0 (.agg #[.int .i64 0, .int .i64 0]) Tryz.underlying157 hi0 hz0 .i64 .i64 0 17 (by omega) (by rw [hz2]; omega) (by omega) W
  have MS : (madeCells (Value.agg #[.int .i64 0, .int .i64 0]).cells (17 * i0.size)).size = 17 * 2 := by rw [size_madeCells, hz1]
  generalize madeCells (Value.agg #[.int .i64 0, .int .i64 0]).cells (17 * i0.size) = mc at *
  have HA := hide ha
  have HB := hide hb
  have XB := hide X.1
  have HR := hide hr
  clear ha hb
  go_enter Tryz.func108, Tryz.ntmps108
  go_wp2
  have hx : w.heap.size + 1 < ((w.alloc (.cells #[.int .i64 a.x, .int .i64 a.y] 27)).alloc (.cells #[.int .i64 b.x, .int .i64 b.y] 27)).heap.size := by simp
  have hsz : ((w.alloc (.cells #[.int .i64 a.x, .int .i64 a.y] 27)).alloc (.cells #[.int .i64 b.x, .int .i64 b.y] 27)).heap.size = w.heap.size + 1 + 1 := by simp
  have RW := hide (World.ownsRow_made (base := ((w.alloc (.cells #[.int .i64 a.x, .int .i64 a.y] 27)).alloc (.cells #[.int .i64 b.x, .int .i64 b.y] 27)).heap.size) (e := 27) (size := 2) ((w.alloc (.cells #[.int .i64 a.x, .int .i64 a.y] 27)).alloc (.cells #[.int .i64 b.x, .int .i64 b.y] 27)) mc 17 (Nat.le_refl _) (by unfold maxLen; omega) MS)
  have BW := hide ((Below.refl ((w.alloc (.cells #[.int .i64 a.x, .int .i64 a.y] 27)).alloc (.cells #[.int .i64 b.x, .int .i64 b.y] 27)).heap.size ((w.alloc (.cells #[.int .i64 a.x, .int .i64 a.y] 27)).alloc (.cells #[.int .i64 b.x, .int .i64 b.y] 27))).alloc (Nat.le_refl _) (.cells mc 27))
  clear MK MS X hr
  generalize (w.alloc (.cells #[.int .i64 a.x, .int .i64 a.y] 27)).alloc (.cells #[.int .i64 b.x, .int .i64 b.y] 27) = W0 at *
  have XH := hide (And.intro BW.out RW.out)
  clear BW RW
  go_loopw [7, 14] (fun v7 v14 wr => ∃ k : Nat, k ≤ 17 ∧ v14 = .int .i64 (k : Int) ∧ Hid (Below W0.heap.size W0 wr ∧ wr.ownsRow W0.heap.size 27 2 v7 k (flV Pnt.x Pnt.y (ptL a b k)))) (fun _ v14 _ => 17 - (intOf v14).toNat)
  case atStart => exact ⟨0, by omega, rfl, hide ⟨XH.out.1, by have h := XH.out.2; rw [hsz] at h ⊢; exact h⟩⟩
  case round =>
    clear XH
    obtain ⟨k, hk, rfl, HY⟩ := hrel
    by_cases hlt : k < 17
    · have g1 : decide (k < 17) = true := decide_eq_true hlt
      have kk : k ≤ 16 := by omega
      obtain ⟨p1, p2⟩ := ptA_bd HA.out.1 HB.out.1 kk
      obtain ⟨q1, q2⟩ := ptA_bd HA.out.2 HB.out.2 kk
      obtain ⟨⟨a1, a2⟩, a3, a4⟩ := HA.out
      obtain ⟨⟨b1, b2⟩, b3, b4⟩ := HB.out
      have e1 := IntWalk.i64_in (b.x - a.x) (by omega)
      have e2 := IntWalk.i64_in (b.y - a.y) (by omega)
      obtain ⟨u, hu⟩ : ∃ u, u = (b.x - a.x) * (k : Int) := ⟨_, rfl⟩
      obtain ⟨v, hv⟩ : ∃ v, v = (b.y - a.y) * (k : Int) := ⟨_, rfl⟩
      have EP : Hid (ptL a b (k + 1) = ptL a b k ++ [⟨a.x + u / 16, a.y + v / 16⟩]) := hide (by rw [ptL_succ, hu, hv]; rfl)
      have EL := hide (ptL_len a b k)
      rw [← hu] at p1 p2
      rw [← hv] at q1 q2
      have w1 : IntKind.i64.wrap ((b.x - a.x) * (k : Int)) = u := by rw [← hu]; exact IntWalk.i64_in _ (by omega)
      have w2 : IntKind.i64.wrap ((b.y - a.y) * (k : Int)) = v := by rw [← hv]; exact IntWalk.i64_in _ (by omega)
      have F1 := hide (fun W => tsfloor_any u W (by omega))
      have F2 := hide (fun W => tsfloor_any v W (by omega))
      have w3 := IntWalk.i64_in (a.x + u / 16) (by omega)
      have w4 := IntWalk.i64_in (a.y + v / 16) (by omega)
      clear hu hv p1 q1 p2 q2 a1 a2 a3 a4 b1 b2 b3 b4 kk
      generalize ptL a b k = L at *
      generalize u / 16 = u2 at *
      generalize v / 16 = v2 at *
      have CF := hide (fun W (h : Below W0.heap.size W0 W) => And.intro ((h.cell (p := ⟨w.heap.size, 0, none⟩) (by show w.heap.size < W0.heap.size; omega)).trans (HR.out.2.1 0)) (And.intro ((h.cell (p := ⟨w.heap.size, 1, none⟩) (by show w.heap.size < W0.heap.size; omega)).trans (HR.out.2.1 1))
        (And.intro ((h.cell (p := ⟨w.heap.size + 1, 0, none⟩) (by show w.heap.size + 1 < W0.heap.size; omega)).trans (HR.out.1.1 0)) ((h.cell (p := ⟨w.heap.size + 1, 1, none⟩) (by show w.heap.size + 1 < W0.heap.size; omega)).trans (HR.out.1.1 1)))))
      obtain ⟨c0, c1, c2, c3⟩ := CF.out _ HY.out.1
      have wl := HY.out.1.size
      have m1 : ¬ wr.heap.size = w.heap.size := by omega
      have m2 : ¬ wr.heap.size = w.heap.size + 1 := by omega
      go_upto_region 5 with (fail)
      have RO := hide ((row_drew HY.out.2).alloc (.cells #[.int .i64 (a.x + u2), .int .i64 (a.y + v2)] 27))
      have RD : Hid (Reads (wr.drew.alloc (.cells #[.int .i64 (a.x + u2), .int .i64 (a.y + v2)] 27)) (wr.heap.size + 1) 2 (some ⟨wr.heap.size, 0, none⟩) 1 [.int .i64 (a.x + u2), .int .i64 (a.y + v2)]) := hide ⟨rfl, fun _ => ⟨_, rfl, Nat.lt_succ_self _, World.news_of_block (cs := #[.int .i64 (a.x + u2), .int .i64 (a.y + v2)]) (t := 27) (fr := (0, 0)) (heap_alloc_new wr.drew _)⟩⟩
      have f4 : ∀ y ∈ [Value.int .i64 (a.x + u2), .int .i64 (a.y + v2)], y.oneCell' = true := by simp [Value.oneCell']
      have f1 : k + 1 ≤ maxLen := by unfold maxLen; omega
      have f2 : (k + 1) * 16 ≤ 140737488355328 := by omega
      have f3 : W0.heap.size ≤ (wr.drew.alloc (.cells #[.int .i64 (a.x + u2), .int .i64 (a.y + v2)] 27)).heap.size := by rw [World.size_alloc]; show W0.heap.size ≤ wr.heap.size + 1; omega
      have BWA := hide ((HY.out.1.drew).alloc wl (.cells #[.int .i64 (a.x + u2), .int .i64 (a.y + v2)] 27))
      clear HY
      go_region_held3 (fun w' => w'.cell? ⟨w.heap.size, 0, none⟩ = some (.int .i64 a.x) ∧ w'.cell? ⟨w.heap.size, 1, none⟩ = some (.int .i64 a.y) ∧ w'.cell? ⟨w.heap.size + 1, 0, none⟩ = some (.int .i64 b.x) ∧ w'.cell? ⟨w.heap.size + 1, 1, none⟩ = some (.int .i64 b.y)) (go_keep)
        (first
          | (go_at_call 137; (first | (with_reducible refine (F1.out _).mono ?_) | (with_reducible refine (F2.out _).mono ?_)); rintro e w' ⟨rfl, rfl⟩)
          | (refine step_append_any (w := wr.drew.alloc (.cells #[.int .i64 (a.x + u2), .int .i64 (a.y + v2)] 27)) (by rfl) _ _ _ (by rfl) W0.heap.size 27 i0 _ 2 16 Tryz.underlying157 hi0 hz0 hz1 hz2 rfl (by omega) _ k (flV Pnt.x Pnt.y L) (by rfl) RO.out (wr.heap.size + 1) _ _ _ [.int .i64 (a.x + u2), .int .i64 (a.y + v2)] (by rfl) RD.out f4 f1 f2 f3 ?_; intro v4 w4 hown4 hgrow hor; have BW4 := BWA.out.grown hgrow BWA.out.size (fun j hj => (RO.out.lt j hj).1); obtain ⟨d0, d1, d2, d3⟩ := CF.out _ BW4; have HY := hide (And.intro BW4 hown4); clear BW4 hown4 hgrow hor))
      have HZ : Hid (Below W0.heap.size W0 w4 ∧ w4.ownsRow W0.heap.size 27 2 v4 (k + 1) (flV Pnt.x Pnt.y (ptL a b (k + 1)))) := hide ⟨HY.out.1, by rw [EP.out, flV_append]; exact HY.out.2⟩
      clear HY d0 d1 d2 d3
      go_wp2
      go_roundw
      case rel => exact ⟨k + 1, by omega, by go_num, HZ⟩
      case measure => simp [intOf]; omega
    · obtain rfl : k = 17 := by omega
      have B1 := below_via XB.out XB.out.size HY.out.1
      obtain ⟨g, cap, e, hg, hlt2, hat⟩ := row_pairs Pnt.x Pnt.y HY.out.2 (by rw [ptL_len]; omega)
      subst e
      have PS : PntSl wr (some ⟨g, 0, none⟩) (ptL a b 17) := ⟨by rw [ptL_len]; omega, fun _ => ⟨g, 0, rfl, hlt2, fun i hi => by rw [Nat.zero_add]; exact hat i hi⟩⟩
      have HP := hide (show PtsPost (ptL a b 17) w (.returned (.slice (some ⟨g, 0, none⟩) (ptL a b 17).length cap)) wr from ⟨B1, _, cap, rfl, PS⟩)
      clear B1 hat PS HY
      go_wp2
      go_ret
      exact HP.out
end Go.Proofs.YtbmocghfpcfmhaaGreatDoor

namespace Go.Proofs.YtbmocghfpcfmhaaGreatDoor
open Go Go.RowKit

/-- a slice of spans that reads as a list -/
def SpnSl (w : World) (A : Option Addr) (l : List Sp) : Prop :=
  l.length ≤ 9223372036854775807 ∧ (0 < l.length → ∃ b off, A = some ⟨b, off, none⟩ ∧ b < w.heap.size ∧ ∀ i (h : i < l.length), w.cell? ⟨b, off + i * 2, none⟩ = some (.int .i64 l[i].lo) ∧ w.cell? ⟨b, off + i * 2 + 1, none⟩ = some (.int .i64 l[i].hi))
theorem SpnSl.below {w w' : World} {A : Option Addr} {l : List Sp} (h : SpnSl w A l) (hb : Below w.heap.size w w') : SpnSl w' A l :=
  ⟨h.1, fun hl => by
    obtain ⟨b, off, e, hlt, hat⟩ := h.2 hl
    have k := fun (i : Nat) => hb.cell (p := ⟨b, i, none⟩) hlt
    exact ⟨b, off, e, Nat.lt_of_lt_of_le hlt hb.size, fun i hi => ⟨(k _).trans (hat i hi).1, (k _).trans (hat i hi).2⟩⟩⟩
/-- a list of spans in memory of the call's own, or the error -/
def LvsPost (l : List Sp) (er : Int) (w : World) (e : Ending) (w' : World) : Prop := Below w.heap.size w w' ∧ ∃ (A : Option Addr) (n cap : Nat), e = .returned (.tuple #[.slice A n cap, .int .i64 er]) ∧ (er = 0 → n = l.length ∧ SpnSl w' A l)
theorem lvL_len (m : Msh) (a b : Pnt) (n : Nat) : (lvL m a b n).length = n := by simp [lvL]
def lvE (m : Msh) (a b : Pnt) : Int := if allL m a b 17 = true then 0 else 12
set_option maxRecDepth 100000 in
set_option maxHeartbeats 4000000 in
theorem tslevels_any (m : Msh) (a : MshA) (p q : Pnt) (w : World) (hm : MshSl w m a) (ht : Lib.TabIs Tryz.prog w "internal/strconv.uint64pow10" .u64 Lib.pow10Tab) (hv : vM m = true) (hp : p.in) (hq : q.in) :
    Calls Tryz.prog 55 #[m.val a, p.val, q.val, .int .i64 16] w (LvsPost (lvL m p q 17) (lvE m p q) w) := by
  obtain ⟨i0, hi0, hz0, hz1, hz2⟩ := info_parts span_info48
  have PT := hide (fun W => tspoints_any p q W hp hq)
  have LV := hide (fun W r (hr : r.in) h h' => lclevel_any m a r W h h' hv hr)
  have PI := hide (fun k (hk : k < 17) => (show (ptL p q 17)[k]? = some (ptA p q k) by simp [ptL, hk]))
  have PN := hide (fun k (hk : k < 17) => ptA_in hp hq (k := k) (by omega))
  unfold RetW at LV
  have HM := hide hm
  have HT := hide ht
  obtain ⟨A1, c1, A2, c2⟩ := a
  have X := (((Own.start w).alloc #[.slice A1 m.ss.length c1, .slice A2 m.fs.length c2] 25).alloc #[.int .i64 p.x, .int .i64 p.y] 27).alloc #[.int .i64 q.x, .int .i64 q.y] 27
  simp only [World.size_alloc] at X
  have hr := X.r3
  obtain ⟨P, hP⟩ : ∃ P, P = ptL p q 17 := ⟨_, rfl⟩
  rw [← hP] at PT PI
  have lP : P.length = 17 := by rw [hP, ptL_len]
  clear hm ht hv hp hq hP
  go_enter Tryz.func55, Tryz.ntmps55
  go_wp2_with fail
  refine (PT.out _).mono ?_
  rintro e w2 ⟨hb, A, cap, rfl, PS⟩
  replace X := X.to hb
  clear hr hb
  have hr := X.r3
  have lw := hr.2.2.2.2
  have XB := hide X.1
  have HM2 := hide (HM.out.below X.1)
  have HT2 := hide (tab_below HT.out X.1)
  have HPS := hide PS
  have CM := hide (fun W (h : Below w2.heap.size w2 W) => And.intro ((h.cell (p := ⟨w.heap.size, 0, none⟩) hr.2.2.2.2).trans (hr.2.2.1 0)) ((h.cell (p := ⟨w.heap.size, 1, none⟩) hr.2.2.2.2).trans (hr.2.2.1 1)))
  clear X PS HM HT PT
  go_wp2
  have XH := hide (And.intro (Below.refl w2.heap.size w2) (World.ownsRow_nil w2 w2.heap.size 31 2))
  clear hr
  go_loopw [10, 20] (fun v10 v20 wr => ∃ k : Nat, k ≤ 17 ∧ v20 = .int .i64 (k : Int) ∧ Hid (Below w2.heap.size w2 wr ∧ wr.ownsRow w2.heap.size 31 2 v10 k (flV Sp.lo Sp.hi (lvL m p q k))) ∧ Hid (allL m p q k = true)) (fun _ v20 _ => 17 - (intOf v20).toNat)
  case atStart => exact ⟨0, by omega, rfl, XH, hide rfl⟩
  case round =>
    clear XH
    obtain ⟨k, hk, rfl, HY, HL⟩ := hrel
    obtain ⟨z0, z1⟩ := CM.out _ HY.out.1
    by_cases hlt : k < 17
    · have g1 : decide (k < P.length) = true := decide_eq_true (by omega)
      have g2 : (0 : Int) ≤ (k : Int) := by omega
      have g3 : (k : Int) < (P.length : Int) := by omega
      obtain ⟨b, off, rfl, hbl, hat⟩ := HPS.out.2 (by omega)
      obtain ⟨d0, d1⟩ := hat k (by omega)
      have eP : P[k]'(by omega) = ptA p q k := by
        have := PI.out k hlt
        rw [List.getElem?_eq_getElem (by omega)] at this
        exact Option.some.inj this
      rw [eP] at d0 d1
      replace d0 := (HY.out.1.cell (p := ⟨b, off + k * 2, none⟩) hbl).trans d0
      replace d1 := (HY.out.1.cell (p := ⟨b, off + k * 2 + 1, none⟩) hbl).trans d1
      have LK := hide (fun W h h' => LV.out W (ptA p q k) (PN.out k hlt) h h')
      have ES := hide (allL_succ m p q k)
      have EL := hide (lvL_succ m p q k)
      have EG : Hid (lvG m p q k = (lvA m (ptA p q k)).getD Sp.zero) := hide rfl
      have EN : Hid (lvA m (ptA p q k) = none → lvE m p q = 12) := hide (fun h => by
        unfold lvE
        rw [if_neg]
        intro hc
        have := allL_at hc hlt
        rw [h] at this
        cases this)
      clear hat eP
      generalize ptA p q k = r at *
      generalize lvA m r = o at *
      have wl := HY.out.1.size
      have m0 : ¬ w.heap.size = wr.heap.size := by omega
      have m00 : w.heap.size < wr.heap.size := by omega
      have BA := hide (HY.out.1.alloc wl (.cells #[.int .i64 r.x, .int .i64 r.y] 27))
      have RA := hide (HY.out.2.alloc (.cells #[.int .i64 r.x, .int .i64 r.y] 27))
      have wl2 : w2.heap.size ≤ (wr.alloc (.cells #[.int .i64 r.x, .int .i64 r.y] 27)).heap.size := BA.out.size
      cases o with
      | none =>
        have E12 := hide (EN.out rfl)
        simp only [lvR] at LK
        clear HY EN ES EG EL HL
        go_wp2_with fail
        refine (LK.out _ (HM2.out.below BA.out) (tab_below HT2.out BA.out)).mono ?_
        rintro e w3 ⟨rfl, hb⟩
        have B3 := hide (below_via BA.out wl2 hb)
        clear hb
        have HP := hide (show ∀ o, LvsPost (lvL m p q 17) (lvE m p q) w (.returned (.tuple #[.slice none 0 0, .int .i64 12])) (w3.alloc o) from fun o => ⟨below_via XB.out XB.out.size (B3.out.alloc B3.out.size o), none, 0, 0, by rw [E12.out], fun h => by rw [E12.out] at h; cases h⟩)
        go_wp2
        exact bodyPost_ret (v := .tuple #[.slice none 0 0, .int .i64 12]) (by simp [results, Tryz.results55, go_sem]) rfl (HP.out _)
      | some s =>
        simp only [lvR] at LK
        have EG2 : Hid (lvG m p q k = s) := hide EG.out
        have EA : Hid (allL m p q (k + 1) = true) := hide (by rw [ES.out, HL.out]; rfl)
        obtain ⟨L, hL⟩ : ∃ L, L = lvL m p q k := ⟨_, rfl⟩
        have EL2 : Hid (lvL m p q (k + 1) = L ++ [s]) := hide (by rw [EL.out, EG2.out, hL])
        have lL : Hid (L.length = k) := hide (by rw [hL, lvL_len])
        rw [← hL] at RA
        clear HY EN ES EG EL HL EG2 hL
        go_wp2_with fail
        refine (LK.out _ (HM2.out.below BA.out) (tab_below HT2.out BA.out)).mono ?_
        rintro e w3 ⟨rfl, hb⟩
        have B3 := hide (below_via BA.out wl2 hb)
        have R3 := hide (row_below RA.out hb)
        clear hb BA RA wl2
        have wl3 := B3.out.size
        have B4 := hide ((B3.out.alloc wl3 (.cells #[.int .i64 s.lo, .int .i64 s.hi] 31)).alloc (by rw [World.size_alloc]; omega) (.cells #[.int .i64 s.lo, .int .i64 s.hi] 31))
        have R4 := hide ((R3.out.alloc (.cells #[.int .i64 s.lo, .int .i64 s.hi] 31)).alloc (.cells #[.int .i64 s.lo, .int .i64 s.hi] 31))
        have NW := hide (World.news_of_block (cs := #[.int .i64 s.lo, .int .i64 s.hi]) (t := 31) (fr := (0, 0)) (heap_alloc_new (w3.alloc (.cells #[.int .i64 s.lo, .int .i64 s.hi] 31)) _))
        have f4 : ∀ y ∈ [Value.int .i64 s.lo, .int .i64 s.hi], y.oneCell' = true := by simp [Value.oneCell']
        have f1 : k + 1 ≤ maxLen := by unfold maxLen; omega
        have f2 : (k + 1) * 16 ≤ 140737488355328 := by omega
        have f3 := B4.out.size
        rw [World.size_alloc] at NW
        go_wp2_with (at_builtin; refine wpList_append_own _ rfl _ _ 65 rfl w2.heap.size 31 i0 (.agg #[.int .i64 0, .int .i64 0]) 2 16 Tryz.underlying65 hi0 hz0 hz1 hz2 rfl (by decide) _ k (flV Sp.lo Sp.hi L) rfl R4.out ⟨w3.heap.size + 1, 0, none⟩ 1 1 [.int .i64 s.lo, .int .i64 s.hi] rfl rfl NW.out f4 f1 f2 f3 ?_; intro v5 w5 hown5 hgrow hor)
        have B5 := B4.out.grown hgrow B4.out.size (fun j hj => (R4.out.lt j hj).1)
        have HZ : Hid (Below w2.heap.size w2 w5 ∧ w5.ownsRow w2.heap.size 31 2 v5 (k + 1) (flV Sp.lo Sp.hi (lvL m p q (k + 1)))) := hide ⟨B5, by rw [EL2.out, flV_append]; exact hown5⟩
        clear hown5 hgrow hor B5 B4 R4
        go_roundw
        case rel => exact ⟨k + 1, by omega, by go_num, HZ, EA⟩
        case measure => simp [intOf]; omega
    · obtain rfl : k = 17 := by omega
      have g1 : decide (17 < P.length) = false := decide_eq_false (by omega)
      have E0 : lvE m p q = 0 := by unfold lvE; rw [if_pos HL.out]
      obtain ⟨g, cap', e, hg, hlt2, hat⟩ := row_pairs Sp.lo Sp.hi HY.out.2 (by rw [lvL_len]; omega)
      subst e
      have SS : SpnSl wr (some ⟨g, 0, none⟩) (lvL m p q 17) := ⟨by rw [lvL_len]; omega, fun _ => ⟨g, 0, rfl, hlt2, fun i hi => by rw [Nat.zero_add]; exact hat i hi⟩⟩
      have HP := hide (show LvsPost (lvL m p q 17) (lvE m p q) w (.returned (.tuple #[.slice (some ⟨g, 0, none⟩) (lvL m p q 17).length cap', .int .i64 0])) wr from ⟨below_via XB.out XB.out.size HY.out.1, _, _, cap', by rw [E0], fun _ => ⟨rfl, SS⟩⟩)
      clear hat SS HY E0
      go_wp2
      go_ret2
      exact HP.out
set_option maxHeartbeats 2000000 in
theorem tsLevels_any (m : Msh) (a : MshA) (p q : Pnt) (w : World) (hm : MshSl w m a) (ht : Lib.TabIs Tryz.prog w "internal/strconv.uint64pow10" .u64 Lib.pow10Tab) (hv : vM m = true) (hp : p.in) (hq : q.in) (hne : p ≠ q) :
    Calls Tryz.prog 28 #[m.val a, p.val, q.val, .int .i64 16] w (LvsPost (lvL m p q 17) (lvE m p q) w) := by
  have CT := hide (fun W bm h1 h2 h3 => tscounted_any m a bm p q W h1 h2 h3 hv hp hq hne)
  have LS := hide (fun W h h' => tslevels_any m a p q W h h' hv hp hq)
  unfold RetW at CT
  have HM := hide hm
  have HT := hide ht
  obtain ⟨A1, c1, A2, c2⟩ := a
  have X := (((Own.start w).alloc #[.slice A1 m.ss.length c1, .slice A2 m.fs.length c2] 25).alloc #[.int .i64 p.x, .int .i64 p.y] 27).alloc #[.int .i64 q.x, .int .i64 q.y] 27
  simp only [World.size_alloc] at X
  have hr := X.r3
  clear hm ht hv hp hq hne
  go_enter Tryz.func28, Tryz.ntmps28
  go_wp2_with fail
  refine (CT.out _ _ (X.2 (w.heap.size, 25, #[.slice A1 m.ss.length c1, .slice A2 m.fs.length c2]) (by simp)) (HM.out.below X.1) (tab_below HT.out X.1)).mono ?_
  rintro e w1 ⟨rfl, hb⟩
  replace X := X.to hb
  clear hr hb
  have hr := X.r3
  go_wp2_with fail
  refine (LS.out _ (HM.out.below X.1) (tab_below HT.out X.1)).mono ?_
  rintro e w2 ⟨hb, A, n, cap, rfl, hS⟩
  have HP := hide (show LvsPost (lvL m p q 17) (lvE m p q) w (.returned (.tuple #[.slice A n cap, .int .i64 (lvE m p q)])) w2 from ⟨(X.to hb).1, A, n, cap, rfl, hS⟩)
  clear hb hS X hr
  generalize lvE m p q = er at *
  go_wp2
  go_ret2
  exact HP.out
end Go.Proofs.YtbmocghfpcfmhaaGreatDoor
