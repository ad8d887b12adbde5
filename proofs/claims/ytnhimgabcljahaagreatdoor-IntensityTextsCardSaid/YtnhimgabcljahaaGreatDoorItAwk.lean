/- The program's Rate, the example of the chapter, awake and large; nothing that was there is turned. -/
import Derived.Test.YtnhimgabcljahaaGreatDoorItDep
namespace Go.Proofs.YtnhimgabcljahaaGreatDoor
open Go.RowKit

set_option maxRecDepth 100000 in
set_option maxHeartbeats 4000000 in
theorem Rate_any (T : Tab) (a : TabA) (x y : Int) (w : World) (ht : TabSl w T a) :
    Calls Tryz.prog 16 #[T.val a, .int .i64 x, .int .i64 y] w (SpanPost (ratLo T x y) (ratHi T x y) (depE T x y) w) := by
  have X := ((Own.start w).alloc #[.slice a.A1 T.ds.length a.c1, .slice a.A2 T.ps.length a.c2, .slice a.A3 T.rows.length a.c3] 25).alloc #[.int .i64 0, .int .i64 0] 45
  simp only [World.size_alloc] at X
  have HT := hide ht
  have V := hide (fun W (h : TabSl W T a) => tvalid_any T a W h)
  clear ht
  rcases dep_cases T x y with ⟨t1, t2, -, -, t3, t4⟩ | ⟨t1, t0, t2, -, -, t3, t4⟩ | ⟨t1, t0, t2, -, -, t3, t4⟩
  · have E := hide (And.intro t3 (And.intro t4 t2))
    clear t2 t3 t4
    go_enter Tryz.func16, Tryz.ntmps16
    go_wp2_with fail
    refine (V.out _ (HT.out.below X.1)).mono ?_
    rintro e w1 ⟨rfl, hb⟩
    rw [t1]
    replace X := X.to hb
    clear hb
    have hr := X.r2
    go_wp2
    exact bodyPost_ret (v := .tuple #[Sv 0 0, .int .i64 1]) (by simp [results, Tryz.results16, hr, go_sem]) rfl (SpanPost.mk E.out.1 E.out.2.1 E.out.2.2 (below_set (below_set X.1 (by omega) _) (by omega) _))
  · have E := hide (And.intro t3 (And.intro t4 t2))
    have D := hide (fun W (h : TabSl W T a) => depth_any T a x y W h (of_vT t1))
    have T0 := hide t0
    clear t2 t3 t4 t0
    go_enter Tryz.func16, Tryz.ntmps16
    go_wp2_with fail
    refine (V.out _ (HT.out.below X.1)).mono ?_
    rintro e w1 ⟨rfl, hb⟩
    rw [t1]
    replace X := X.to hb
    clear hb
    have hr := X.r2
    go_wp2_with fail
    refine (D.out _ (HT.out.below X.1)).mono ?_
    rintro e w2 ⟨-, he, hb⟩
    obtain rfl := he T0.out
    replace X := X.to hb
    clear hb hr he
    have hr := X.r2
    go_wp2
    exact bodyPost_ret (v := .tuple #[Sv 0 0, .int .i64 2]) (by simp [results, Tryz.results16, hr, go_sem]) rfl (SpanPost.mk E.out.1 E.out.2.1 E.out.2.2 (below_set (below_set X.1 (by omega) _) (by omega) _))
  · have E := hide (And.intro t3 (And.intro t4 t2))
    have D := hide (fun W (h : TabSl W T a) => depth_any T a x y W h (of_vT t1))
    have T0 := hide t0
    have v := of_vT t1
    have bd := nT_bd v t0
    obtain ⟨x1, x2⟩ := inL_iff.1 t0.1
    have b0 := v.dB 0 (by have := v.d1; omega)
    have b1 := v.dB (T.ds.length - 1) (by have := v.d1; omega)
    obtain ⟨n, hn⟩ : ∃ n : Nat, nT T x y = (n : Int) := ⟨(nT T x y).toNat, by omega⟩
    obtain ⟨d, hd⟩ : ∃ d : Nat, dT T x y = (d : Int) := ⟨(dT T x y).toNat, by omega⟩
    obtain ⟨xn, hxn⟩ : ∃ xn : Nat, x = (xn : Int) := ⟨x.toNat, by omega⟩
    rw [hn, hd] at bd
    rw [hxn] at x1 x2
    have p1 : d * xn ≤ 25920000000 * 2592000 := Nat.mul_le_mul (by omega) (by omega)
    have p0 : 0 < d * xn := Nat.mul_pos (by omega) (by omega)
    have p2 : d * 1 ≤ d * xn := Nat.mul_le_mul_left d (by omega)
    have p3 : n * 3600 ≤ 15099494400 * (d * xn) := by omega
    have S := hide (fun W => span_any n 3600 (d * xn) W (by omega) (by omega) (by omega) (by omega) (by omega) (Nat.div_lt_of_lt_mul (by omega)))
    have EQ : Hid (nT T x y * 3600 / (dT T x y * x) = ((n * 3600 : Nat) : Int) / ((d * xn : Nat) : Int) ∧ cdiv (nT T x y * 3600) (dT T x y * x) = cdiv ((n * 3600 : Nat) : Int) ((d * xn : Nat) : Int)) :=
      hide (by rw [hn, hd, hxn, Int.natCast_mul, Int.natCast_mul]; exact ⟨rfl, rfl⟩)
    obtain ⟨c, hc⟩ : ∃ c : Nat, c = d * xn := ⟨_, rfl⟩
    have z1 : IntKind.i64.wrap ((d : Int) * x) = (c : Int) := by rw [hxn, ← Int.natCast_mul, ← hc]; exact IntWalk.i64_in _ (by omega)
    have z2 : wrap64 ((d : Int) * x) = (c : Int) := by rw [hxn, ← Int.natCast_mul, ← hc]; exact IntWalk.wrap64_in _ (by omega)
    rw [← hc] at S EQ
    have E' := hide (And.intro (E.out.1.trans EQ.out.1) (And.intro (E.out.2.1.trans EQ.out.2) E.out.2.2))
    have HN := hide (And.intro hn hd)
    clear t2 t3 t4 t0 bd hn hd EQ E v b0 b1 x1 x2 hxn p0 p1 p2 p3 hc
    generalize ((n * 3600 : Nat) : Int) / (c : Int) = sl at *
    generalize cdiv ((n * 3600 : Nat) : Int) (c : Int) = sh at *
    go_enter Tryz.func16, Tryz.ntmps16
    go_wp2_with fail
    refine (V.out _ (HT.out.below X.1)).mono ?_
    rintro e w1 ⟨rfl, hb⟩
    rw [t1]
    replace X := X.to hb
    clear hb
    have hr := X.r2
    go_wp2_with fail
    refine (D.out _ (HT.out.below X.1)).mono ?_
    rintro e w2 ⟨he, -, hb⟩
    have he2 := he T0.out
    rw [HN.out.1, HN.out.2] at he2
    subst he2
    replace X := X.to hb
    clear hb hr he
    have hr := X.r2
    go_wp2_with fail
    refine (S.out _).mono ?_
    rintro e w3 ⟨rfl, hb⟩
    replace X := X.to hb
    clear hb hr
    have hr := X.r2
    go_wp2
    exact bodyPost_ret (v := .tuple #[Sv sl sh, .int .i64 0]) (by simp [results, Tryz.results16, hr, go_sem]) rfl (SpanPost.mk E'.out.1 E'.out.2.1 E'.out.2.2 (below_set (below_set X.1 (by omega) _) (by omega) _))
def exT : Tab := ⟨[300, 900], [2, 10], [[6000, 9000], [10000, 16000]]⟩
theorem ex_vT : vT exT = true := by decide +kernel
theorem ex_dep : depE exT 600 4 = 0 ∧ depLo exT 600 4 = 8875 ∧ depHi exT 600 4 = 8875 ∧ ratLo exT 600 4 = 53250 ∧ ratHi exT 600 4 = 53250 := by decide +kernel
def ExPost (w : World) (e : Ending) (w' : World) : Prop := ∃ a, e = .returned (exT.val a) ∧ TabSl w' exT a ∧ Below w.heap.size w w'
theorem IntSl.of2 {W : World} {g : Nat} {x y : Int} (hg : g < W.heap.size) (hx : 0 ≤ x ∧ x ≤ 4194304) (hy : 0 ≤ y ∧ y ≤ 4194304) (h0 : W.cell? ⟨g, 0, none⟩ = some (.int .i64 x)) (h1 : W.cell? ⟨g, 1, none⟩ = some (.int .i64 y)) : IntSl W (some ⟨g, 0, none⟩) [x, y] := by
  refine ⟨⟨by simp, fun i hi => ?_⟩, fun _ => ⟨g, 0, rfl, hg, fun i hi => ?_⟩⟩
  · match i, hi with
    | 0, _ => simp only [List.getElem_cons_zero]; omega
    | 1, _ => simp only [List.getElem_cons_succ, List.getElem_cons_zero]; omega
  · match i, hi with
    | 0, _ => exact h0
    | 1, _ => exact h1
set_option maxHeartbeats 1000000 in
theorem example_any (w : World) : Calls Tryz.prog 15 #[] w (ExPost w) := by
  go_enter Tryz.func15, Tryz.ntmps15
  go_wp2
  have Y := ((((((Own.start w).alloc #[.slice (some ⟨w.heap.size + 1, 0, none⟩) 2 2, .slice (some ⟨w.heap.size + 1 + 1, 0, none⟩) 2 2, .slice (some ⟨w.heap.size + 1 + 1 + 1 + 1 + 1, 0, none⟩) 2 2] 25).alloc #[.int .i64 300, .int .i64 900] 3).alloc #[.int .i64 2, .int .i64 10] 3).alloc #[.int .i64 6000, .int .i64 9000] 3).alloc #[.int .i64 10000, .int .i64 16000] 3).alloc
    #[.slice (some ⟨w.heap.size + 1 + 1 + 1, 0, none⟩) 2 2, .slice (some ⟨w.heap.size + 1 + 1 + 1 + 1, 0, none⟩) 2 2] 22
  simp only [World.size_alloc] at Y
  refine bodyPost_ret (v := exT.val ⟨some ⟨w.heap.size + 1, 0, none⟩, some ⟨w.heap.size + 1 + 1, 0, none⟩, some ⟨w.heap.size + 1 + 1 + 1 + 1 + 1, 0, none⟩, 2, 2, 2⟩) (by simp [results, Tryz.results15, go_sem, exT]) rfl ⟨_, rfl, ?_, Y.1⟩
  generalize World.alloc _ _ = W at *
  have r0 := Y.r1
  have r1 := Y.tail.r1
  have r2 := Y.tail.tail.r1
  have r3 := Y.tail.tail.tail.r1
  have r4 := Y.tail.tail.tail.tail.r1
  have i1 : IntSl W (some ⟨w.heap.size + 1 + 1 + 1, 0, none⟩) [6000, 9000] := IntSl.of2 r2.2.2 (by omega) (by omega) (r2.1 0) (r2.1 1)
  have i2 : IntSl W (some ⟨w.heap.size + 1 + 1 + 1 + 1, 0, none⟩) [10000, 16000] := IntSl.of2 r1.2.2 (by omega) (by omega) (r1.1 0) (r1.1 1)
  refine ⟨IntSl.of2 r4.2.2 (by omega) (by omega) (r4.1 0) (r4.1 1), IntSl.of2 r3.2.2 (by omega) (by omega) (r3.1 0) (r3.1 1), ⟨by unfold maxLen; simp [exT], fun _ => ⟨_, 0, rfl, r0.2.2, fun i hi => ?_⟩⟩, by simp [exT], by simp [exT], by simp [exT]⟩
  match i, hi with
  | 0, _ => exact ⟨_, 2, r0.1 0, i1, by simp [exT]⟩
  | 1, _ => exact ⟨_, 2, r0.1 1, i2, by simp [exT]⟩
set_option maxHeartbeats 2000000 in
theorem awake_any (w : World) : Calls Tryz.prog 4 #[] w fun e w' => e = .returned (.bool true) ∧ Below w.heap.size w w' := by
  obtain ⟨x1, x2, x3, x4, x5⟩ := ex_dep
  have D := hide (fun W a (h : TabSl W exT a) => Depth_any exT a 600 4 W h)
  have R := hide (fun W a (h : TabSl W exT a) => Rate_any exT a 600 4 W h)
  have V := hide (fun W a (h : TabSl W exT a) => tvalid_any exT a W h)
  rw [x1, x2, x3] at D
  rw [x1, x4, x5] at R
  rw [ex_vT] at V
  have X := Own.start w
  clear x1 x2 x3 x4 x5
  go_enter Tryz.func4, Tryz.ntmps4
  go_wp2_with fail
  refine (example_any _).mono ?_
  rintro e w1 ⟨a, rfl, ht, hb⟩
  replace X := X.to hb
  have HT := hide ht
  clear hb ht
  go_wp2_with fail
  refine (D.out _ a HT.out).mono ?_
  rintro e w2 ⟨rfl, hb⟩
  replace X := (X.to hb).alloc #[.int .i64 8875, .int .i64 8875] 45
  clear hb HT
  have hr := X.r1
  go_wp2_with fail
  refine (example_any _).mono ?_
  rintro e w3 ⟨a', rfl, ht, hb⟩
  replace X := X.to hb
  have HT := hide ht
  clear hb ht hr
  have hr := X.r1
  go_wp2_with fail
  refine (R.out _ a' HT.out).mono ?_
  rintro e w4 ⟨rfl, hb⟩
  replace X := (X.to hb).alloc #[.int .i64 53250, .int .i64 53250] 45
  clear hb HT hr
  have hr := X.r2
  go_wp2_with fail
  refine (example_any _).mono ?_
  rintro e w5 ⟨a2, rfl, ht, hb⟩
  replace X := X.to hb
  have HT := hide ht
  clear hb ht hr
  have hr := X.r2
  go_wp2_with fail
  refine (V.out _ a2 HT.out).mono ?_
  rintro e w6 ⟨rfl, hb⟩
  replace X := X.to hb
  clear hb HT hr
  go_wp2
  go_ret
  exact ⟨rfl, X.1⟩
def longR (r : List Int) : Bool := decide (12 < r.length)
set_option maxHeartbeats 400000 in
theorem large1_any (r : List Int) (R : Option Addr) (c : Nat) (w : World) (hr : r.length ≤ 9223372036854775807) : Calls Tryz.prog 19 #[.slice R r.length c] w fun e w' => e = .returned (.bool (longR r)) ∧ w = w' := by
  go_enter Tryz.func19, Tryz.ntmps19
  go_wp2
  go_ret
  exact ⟨ret_bool (by simp [longR]; omega), rfl⟩
def idxL (l : List (List Int)) : Int := match l.findIdx? longR with | some i => (i : Int) | none => -1
theorem idxL_no {l : List (List Int)} (h : ∀ i, i < l.length → longR (l.getD i []) = false) : idxL l = -1 := by
  have : l.findIdx? longR = none := by
    rw [List.findIdx?_eq_none_iff]
    intro x hx
    obtain ⟨i, hi, rfl⟩ := List.mem_iff_getElem.1 hx
    have := h i hi
    simpa [hi] using this
  simp [idxL, this]
theorem idxL_yes {l : List (List Int)} {k : Nat} (hk : k < l.length) (h : ∀ i, i < k → longR (l.getD i []) = false) (hy : longR (l.getD k []) = true) : idxL l = k := by
  have : l.findIdx? longR = some k := by
    rw [List.findIdx?_eq_some_iff_getElem]
    refine ⟨hk, by simpa [hk] using hy, fun j hj => ?_⟩
    have := h j hj
    have hjl : j < l.length := by omega
    simpa [hjl] using this
  simp [idxL, this]
theorem any_idxL (l : List (List Int)) : l.any longR = decide (0 ≤ idxL l) := by
  unfold idxL
  cases h : l.findIdx? longR with
  | none =>
    rw [List.findIdx?_eq_none_iff] at h
    rw [Bool.eq_iff_iff]
    simp only [List.any_eq_true, decide_eq_true_eq]
    constructor
    · rintro ⟨x, hx, hp⟩
      rw [h x hx] at hp
      cases hp
    · intro h'
      omega
  | some i =>
    rw [List.findIdx?_eq_some_iff_getElem] at h
    obtain ⟨hi, hp, _⟩ := h
    rw [Bool.eq_iff_iff]
    simp only [List.any_eq_true, decide_eq_true_eq]
    exact ⟨fun _ => by omega, fun _ => ⟨l[i], List.getElem_mem hi, hp⟩⟩
set_option maxHeartbeats 1000000 in
theorem idxRow_any (l : List (List Int)) (A : Option Addr) (cap : Nat) (w : World) (hl : RowsSl w A l) :
    Calls Tryz.prog 33 #[.slice A l.length cap, .func (.func 19) #[] #[]] w fun e w' => e = .returned (.int .i64 (idxL l)) ∧ w = w' := by
  have hlen : l.length ≤ 9223372036854775807 := by have := hl.1; unfold maxLen at this; omega
  have H := hide hl
  clear hl
  go_enter Tryz.func33, Tryz.ntmps33
  go_wp2
  go_loop [8] (fun v8 => ∃ k : Nat, k ≤ l.length ∧ v8 = .int .i64 k ∧ Hid (∀ i, i < k → longR (l.getD i []) = false)) (fun v8 => l.length - (intOf v8).toNat)
  case atStart => exact ⟨0, Nat.zero_le _, rfl, hide (fun _ h => by omega)⟩
  case round =>
    obtain ⟨k, hk, rfl, hno⟩ := hrel
    by_cases hlt : k < l.length
    · obtain ⟨b, off, R, c, rfl, hbl, c0, hR⟩ := H.out.row hlt
      have ES := hide (fun h => idxL_yes hlt hno.out h)
      have STEP := hide (fun (h : longR (l.getD k []) = false) i (hi : i < k + 1) => (by
        by_cases e : i = k
        · subst e; exact h
        · exact hno.out i (by omega) : longR (l.getD i []) = false))
      have hR1 := hR.1.1
      generalize l.getD k [] = r at *
      clear hR
      rcases Bool.eq_false_or_eq_true (longR r) with hs | hs
      · go_wp2_with fail
        refine (large1_any r R c _ hR1).mono ?_
        rintro e w' ⟨rfl, rfl⟩
        rw [hs]
        go_wp2
        go_ret
        exact ⟨ret_int (ES.out hs).symm, rfl⟩
      · go_wp2_with fail
        refine (large1_any r R c _ hR1).mono ?_
        rintro e w' ⟨rfl, rfl⟩
        rw [hs]
        go_wp2
        go_round
        case rel => exact ⟨k + 1, by omega, by go_num, hide (STEP.out hs)⟩
        case measure => simp [intOf]; omega
    · have hv := hide (idxL_no (fun i hi => hno.out i (by omega)))
      go_wp2
      go_ret
      exact ⟨ret_int hv.out.symm, rfl⟩
set_option maxHeartbeats 1000000 in
theorem contRow_any (l : List (List Int)) (A : Option Addr) (cap : Nat) (w : World) (hl : RowsSl w A l) :
    Calls Tryz.prog 18 #[.slice A l.length cap, .func (.func 19) #[] #[]] w fun e w' => e = .returned (.bool (l.any longR)) ∧ w = w' := by
  have H := hide (any_idxL l)
  have HL := hide hl
  clear hl
  go_enter Tryz.func18, Tryz.ntmps18
  go_wp2_with fail
  refine (idxRow_any l A cap _ HL.out).mono ?_
  rintro e w' ⟨rfl, rfl⟩
  go_wp2
  go_ret
  exact ⟨ret_bool H.out.symm, rfl⟩
def bigT (T : Tab) : Bool := decide (12 < T.ds.length) || (decide (12 < T.ps.length) || (decide (12 < T.rows.length) || T.rows.any longR))
set_option maxHeartbeats 1000000 in
theorem large_any (T : Tab) (a : TabA) (w : World) (ht : TabSl w T a) :
    Calls Tryz.prog 5 #[T.val a] w (BoolPost (bigT T) w) := by
  have X := (Own.start w).alloc #[.slice a.A1 T.ds.length a.c1, .slice a.A2 T.ps.length a.c2, .slice a.A3 T.rows.length a.c3] 25
  have l1 : T.ds.length ≤ 9223372036854775807 := ht.1.1.1
  have l2 : T.ps.length ≤ 9223372036854775807 := ht.2.1.1.1
  have l3 : T.rows.length ≤ 9223372036854775807 := by have := ht.2.2.1.1; unfold maxLen at this; omega
  have HT := hide (ht.below X.1)
  clear ht
  have t : (12 < T.ds.length) ∨ (¬ 12 < T.ds.length ∧ 12 < T.ps.length) ∨ (¬ 12 < T.ds.length ∧ ¬ 12 < T.ps.length ∧ 12 < T.rows.length) ∨ (¬ 12 < T.ds.length ∧ ¬ 12 < T.ps.length ∧ ¬ 12 < T.rows.length) := by omega
  rcases t with t1 | ⟨t1, t2⟩ | ⟨t1, t2, t3⟩ | ⟨t1, t2, t3⟩
  · have E := hide (show bigT T = true by simp [bigT, t1])
    go_enter Tryz.func5, Tryz.ntmps5
    go_wp2
    go_ret
    exact BoolPost.mk E.out X.1
  · have E := hide (show bigT T = true by simp [bigT, t2])
    go_enter Tryz.func5, Tryz.ntmps5
    go_wp2
    go_ret
    exact BoolPost.mk E.out X.1
  · have E := hide (show bigT T = true by simp [bigT, t3])
    go_enter Tryz.func5, Tryz.ntmps5
    go_wp2
    go_ret
    exact BoolPost.mk E.out X.1
  · have E := hide (show bigT T = T.rows.any longR by simp [bigT, t1, t2, t3])
    go_enter Tryz.func5, Tryz.ntmps5
    go_wp2_with fail
    refine (contRow_any T.rows a.A3 a.c3 _ HT.out.2.2.1).mono ?_
    rintro e w' ⟨rfl, rfl⟩
    go_wp2
    go_ret
    have q1 : decide ((12 : Int) < (T.ds.length : Int)) = false := by simp; omega
    have q2 : decide ((12 : Int) < (T.ps.length : Int)) = false := by simp; omega
    have q3 : decide ((12 : Int) < (T.rows.length : Int)) = false := by simp; omega
    exact BoolPost.mk (E.out.trans (by rw [q1, q2, q3]; rfl)) X.1
end Go.Proofs.YtnhimgabcljahaaGreatDoor
