/- The reference's Sum and Order of integers of two words (sewershedref03): what each returns; nothing that was there is turned. -/
import Derived.Test.YtgflgnbbkhikcaaDoorRf3U
import Derived.Deep.RegionHeld3
namespace Go.Proofs.YtgflgnbbkhikcaaDoor
open Go.RowKit

theorem sum_same {x y : Int} {s : Bool} (hx : s = decide (x < 0)) (hy : s = decide (y < 0)) : (x + y).natAbs = x.natAbs + y.natAbs ∧ (x + y ≠ 0 → s = decide (x + y < 0)) := by
  cases s
  · have h1 := of_decide_eq_false hx.symm
    have h2 := of_decide_eq_false hy.symm
    exact ⟨by omega, fun _ => (decide_eq_false (by omega)).symm⟩
  · have h1 := of_decide_eq_true hx.symm
    have h2 := of_decide_eq_true hy.symm
    exact ⟨by omega, fun _ => (decide_eq_true (by omega)).symm⟩
theorem sum_less {x y : Int} {s s' : Bool} (hx : s = decide (x < 0)) (hy : s' = decide (y < 0)) (hs : s ≠ s') (h : x.natAbs < y.natAbs) : (x + y).natAbs = y.natAbs - x.natAbs ∧ (x + y ≠ 0 → s' = decide (x + y < 0)) := by
  cases s <;> cases s' <;> first | exact absurd rfl hs | skip
  · have h1 := of_decide_eq_false hx.symm
    have h2 := of_decide_eq_true hy.symm
    exact ⟨by omega, fun _ => (decide_eq_true (by omega)).symm⟩
  · have h1 := of_decide_eq_true hx.symm
    have h2 := of_decide_eq_false hy.symm
    exact ⟨by omega, fun _ => (decide_eq_false (by omega)).symm⟩
theorem sum_more {x y : Int} {s s' : Bool} (hx : s = decide (x < 0)) (hy : s' = decide (y < 0)) (hs : s ≠ s') (h : ¬ x.natAbs < y.natAbs) : (x + y).natAbs = x.natAbs - y.natAbs ∧ (x + y ≠ 0 → s = decide (x + y < 0)) := by
  cases s <;> cases s' <;> first | exact absurd rfl hs | skip
  · have h1 := of_decide_eq_false hx.symm
    have h2 := of_decide_eq_true hy.symm
    exact ⟨by omega, fun _ => (decide_eq_false (by omega)).symm⟩
  · have h1 := of_decide_eq_true hx.symm
    have h2 := of_decide_eq_false hy.symm
    exact ⟨by omega, fun h0 => (decide_eq_true (by omega)).symm⟩
theorem Nm.w {h l : Nat} {s : Bool} {z : Int} (hn : Nm h l s z) : Wd h l z.natAbs := hn.1
theorem Nm.lt {h l : Nat} {s : Bool} {z : Int} (hn : Nm h l s z) : z.natAbs < 340282366920938463463374607431768211456 := by
  have h1 := wd_lt hn.1.1 hn.1.2.1
  have h2 := hn.1.2.2
  omega
theorem NmPost.mk {z : Int} {h l : Nat} {s s' : Bool} {w w' : World} (hw : Wd h l z.natAbs) (h' : s' = (s && !decide (h = 0 ∧ l = 0))) (hs : z ≠ 0 → s = decide (z < 0)) (hb : Below w.heap.size w w') : NmPost z w (.returned (Nd h l s')) w' := (ZPost.mk hw h' hs hb).nm
set_option maxRecDepth 100000 in
set_option maxHeartbeats 4000000 in
theorem n3sum_same {h l h' l' : Nat} {s : Bool} {x y : Int} (hx : Nm h l s x) (hy : Nm h' l' s y) (hb : x.natAbs + y.natAbs < 340282366920938463463374607431768211456)  (w : World) : Calls Tryd.prog 79 #[Nd h l s, Nd h' l' s] w (NmPost (x + y) w) := by
  have X := (((Own.start w).alloc #[.int .u64 (h : Int), .int .u64 (l : Int), .bool s] 59).alloc #[.int .u64 (h' : Int), .int .u64 (l' : Int), .bool s] 59).alloc #[.int .u64 0, .int .u64 0, .bool false] 59
  simp only [World.size_alloc] at X
  have PL := hide (fun W => r3plus_any h l h' l' W hx.1.2.1 hy.1.2.1)
  rw [hx.1.2.2, hy.1.2.2] at PL
  obtain ⟨q1, q2⟩ := sum_same hx.2 hy.2
  have HE := hide (show (x.natAbs + y.natAbs) % 340282366920938463463374607431768211456 = (x + y).natAbs by rw [Nat.mod_eq_of_lt hb, q1])
  have HSG := hide q2
  clear q1 q2
  generalize x.natAbs + y.natAbs = N at *
  generalize x + y = Z at *
  have hr := X.r3
  have HX := hide X
  have n0 : ¬ (w.heap.size = w.heap.size + 1 + 1) := by clear hr hb; omega
  have n1 : ¬ (w.heap.size + 1 + 1 = w.heap.size) := by clear hr hb; omega
  clear X hx hy hb
  go_enter Tryd.func79, Tryd.ntmps79
  go_wp2_with fail
  go_region_held3 (fun w' => w'.cell? ⟨w.heap.size, 0, none⟩ = some (.int .u64 (h : Int)) ∧ w'.cell? ⟨w.heap.size, 1, none⟩ = some (.int .u64 (l : Int)) ∧ w'.cell? ⟨w.heap.size, 2, none⟩ = some (.bool s) ∧
      w'.cell? ⟨w.heap.size + 1, 0, none⟩ = some (.int .u64 (h' : Int)) ∧ w'.cell? ⟨w.heap.size + 1, 1, none⟩ = some (.int .u64 (l' : Int)) ∧ w'.cell? ⟨w.heap.size + 1, 2, none⟩ = some (.bool s)) (go_keep)
    (first
      | (go_at_call 65; ((with_reducible refine (PL.out _).mono ?_); rintro e w1 ⟨⟨ph, pl, rfl, hp⟩, hb⟩); have HP := hide hp; have MD := hide (fun W => r3made_any ph pl s W); (first | (replace HX := hide (HX.out.to hb)) | (replace HX := hide (HX.out.drew.to hb))); have hk := keeps hb; clear hb hp)
      | (go_at_call 61; ((with_reducible refine (MD.out _).mono ?_); rintro e w2 ⟨⟨s2, rfl, hs2⟩, hb⟩); have HG := hide hs2; (first | (replace HX := hide (HX.out.to hb)) | (replace HX := hide (HX.out.drew.to hb))); have hk2 := keeps hb; have hr2 := HX.out.r3; clear hb hs2))
  go_wp2
  exact bodyPost_ret (v := Nd ph pl s2) (by simp [results, Tryd.results79, hr2, go_sem]) rfl (NmPost.mk (wd_eq HP.out HE.out) HG.out HSG.out (by have HX := HX.out.1; have hz := HX.size; go_grown))
set_option maxRecDepth 100000 in
set_option maxHeartbeats 4000000 in
theorem n3sum_less_ft {h l h' l' : Nat}  {x y : Int} (hx : Nm h l false x) (hy : Nm h' l' true y) (hb : x.natAbs + y.natAbs < 340282366920938463463374607431768211456) (hlt : x.natAbs < y.natAbs) (w : World) : Calls Tryd.prog 79 #[Nd h l false, Nd h' l' true] w (NmPost (x + y) w) := by
  have X := (((Own.start w).alloc #[.int .u64 (h : Int), .int .u64 (l : Int), .bool false] 59).alloc #[.int .u64 (h' : Int), .int .u64 (l' : Int), .bool true] 59).alloc #[.int .u64 0, .int .u64 0, .bool false] 59
  simp only [World.size_alloc] at X
  have LS := hide (fun W => r3less_any h l h' l' W hx.1.2.1 hy.1.2.1)
  rw [hx.1.2.2, hy.1.2.2, decide_eq_true hlt] at LS
  have PL := hide (fun W => r3minus_any h' l' h l W hy.1.1 hy.1.2.1 hx.1.1 hx.1.2.1)
  rw [hx.1.2.2, hy.1.2.2] at PL
  obtain ⟨q1, q2⟩ := sum_less hx.2 hy.2 (by decide) hlt
  have HE := hide (show (y.natAbs + 340282366920938463463374607431768211456 - x.natAbs) % 340282366920938463463374607431768211456 = (x + y).natAbs by rw [q1]; omega)
  have HSG := hide q2
  clear q1 q2 hlt
  generalize x.natAbs = N at *
  generalize y.natAbs = M at *
  generalize x + y = Z at *
  have hr := X.r3
  have HX := hide X
  have n0 : ¬ (w.heap.size = w.heap.size + 1 + 1) := by clear hr hb; omega
  have n1 : ¬ (w.heap.size + 1 + 1 = w.heap.size) := by clear hr hb; omega
  clear X hx hy hb
  go_enter Tryd.func79, Tryd.ntmps79
  go_wp2_with fail
  refine (LS.out _).mono ?_
  rintro e w0 ⟨rfl, hb⟩
  replace HX := hide (HX.out.to hb)
  clear hb hr
  have hr := HX.out.r3
  go_wp2_with fail
  go_region_held3 (fun w' => w'.cell? ⟨w.heap.size, 0, none⟩ = some (.int .u64 (h : Int)) ∧ w'.cell? ⟨w.heap.size, 1, none⟩ = some (.int .u64 (l : Int)) ∧ w'.cell? ⟨w.heap.size, 2, none⟩ = some (.bool false) ∧
      w'.cell? ⟨w.heap.size + 1, 0, none⟩ = some (.int .u64 (h' : Int)) ∧ w'.cell? ⟨w.heap.size + 1, 1, none⟩ = some (.int .u64 (l' : Int)) ∧ w'.cell? ⟨w.heap.size + 1, 2, none⟩ = some (.bool true)) (go_keep)
    (first
      | (go_at_call 78; ((with_reducible refine (PL.out _).mono ?_); rintro e w1 ⟨⟨ph, pl, rfl, hp⟩, hb⟩); have HP := hide hp; have MD := hide (fun W => r3made_any ph pl true W); (first | (replace HX := hide (HX.out.to hb)) | (replace HX := hide (HX.out.drew.to hb))); have hk := keeps hb; clear hb hp)
      | (go_at_call 61; ((with_reducible refine (MD.out _).mono ?_); rintro e w2 ⟨⟨s2, rfl, hs2⟩, hb⟩); have HG := hide hs2; (first | (replace HX := hide (HX.out.to hb)) | (replace HX := hide (HX.out.drew.to hb))); have hk2 := keeps hb; have hr2 := HX.out.r3; clear hb hs2))
  go_wp2
  exact bodyPost_ret (v := Nd ph pl s2) (by simp [results, Tryd.results79, hr2, go_sem]) rfl (NmPost.mk (wd_eq HP.out HE.out) HG.out HSG.out (by have HX := HX.out.1; have hz := HX.size; go_grown))
set_option maxRecDepth 100000 in
set_option maxHeartbeats 4000000 in
theorem n3sum_more_ft {h l h' l' : Nat}  {x y : Int} (hx : Nm h l false x) (hy : Nm h' l' true y) (hb : x.natAbs + y.natAbs < 340282366920938463463374607431768211456) (hlt : ¬ x.natAbs < y.natAbs) (w : World) : Calls Tryd.prog 79 #[Nd h l false, Nd h' l' true] w (NmPost (x + y) w) := by
  have X := (((Own.start w).alloc #[.int .u64 (h : Int), .int .u64 (l : Int), .bool false] 59).alloc #[.int .u64 (h' : Int), .int .u64 (l' : Int), .bool true] 59).alloc #[.int .u64 0, .int .u64 0, .bool false] 59
  simp only [World.size_alloc] at X
  have LS := hide (fun W => r3less_any h l h' l' W hx.1.2.1 hy.1.2.1)
  rw [hx.1.2.2, hy.1.2.2, decide_eq_false hlt] at LS
  have PL := hide (fun W => r3minus_any h l h' l' W hx.1.1 hx.1.2.1 hy.1.1 hy.1.2.1)
  rw [hx.1.2.2, hy.1.2.2] at PL
  obtain ⟨q1, q2⟩ := sum_more hx.2 hy.2 (by decide) hlt
  have HE := hide (show (x.natAbs + 340282366920938463463374607431768211456 - y.natAbs) % 340282366920938463463374607431768211456 = (x + y).natAbs by rw [q1]; omega)
  have HSG := hide q2
  clear q1 q2 hlt
  generalize x.natAbs = N at *
  generalize y.natAbs = M at *
  generalize x + y = Z at *
  have hr := X.r3
  have HX := hide X
  have n0 : ¬ (w.heap.size = w.heap.size + 1 + 1) := by clear hr hb; omega
  have n1 : ¬ (w.heap.size + 1 + 1 = w.heap.size) := by clear hr hb; omega
  clear X hx hy hb
  go_enter Tryd.func79, Tryd.ntmps79
  go_wp2_with fail
  refine (LS.out _).mono ?_
  rintro e w0 ⟨rfl, hb⟩
  replace HX := hide (HX.out.to hb)
  clear hb hr
  have hr := HX.out.r3
  go_wp2_with fail
  go_region_held3 (fun w' => w'.cell? ⟨w.heap.size, 0, none⟩ = some (.int .u64 (h : Int)) ∧ w'.cell? ⟨w.heap.size, 1, none⟩ = some (.int .u64 (l : Int)) ∧ w'.cell? ⟨w.heap.size, 2, none⟩ = some (.bool false) ∧
      w'.cell? ⟨w.heap.size + 1, 0, none⟩ = some (.int .u64 (h' : Int)) ∧ w'.cell? ⟨w.heap.size + 1, 1, none⟩ = some (.int .u64 (l' : Int)) ∧ w'.cell? ⟨w.heap.size + 1, 2, none⟩ = some (.bool true)) (go_keep)
    (first
      | (go_at_call 78; ((with_reducible refine (PL.out _).mono ?_); rintro e w1 ⟨⟨ph, pl, rfl, hp⟩, hb⟩); have HP := hide hp; have MD := hide (fun W => r3made_any ph pl false W); (first | (replace HX := hide (HX.out.to hb)) | (replace HX := hide (HX.out.drew.to hb))); have hk := keeps hb; clear hb hp)
      | (go_at_call 61; ((with_reducible refine (MD.out _).mono ?_); rintro e w2 ⟨⟨s2, rfl, hs2⟩, hb⟩); have HG := hide hs2; (first | (replace HX := hide (HX.out.to hb)) | (replace HX := hide (HX.out.drew.to hb))); have hk2 := keeps hb; have hr2 := HX.out.r3; clear hb hs2))
  go_wp2
  exact bodyPost_ret (v := Nd ph pl s2) (by simp [results, Tryd.results79, hr2, go_sem]) rfl (NmPost.mk (wd_eq HP.out HE.out) HG.out HSG.out (by have HX := HX.out.1; have hz := HX.size; go_grown))
set_option maxRecDepth 100000 in
set_option maxHeartbeats 4000000 in
theorem n3sum_less_tf {h l h' l' : Nat}  {x y : Int} (hx : Nm h l true x) (hy : Nm h' l' false y) (hb : x.natAbs + y.natAbs < 340282366920938463463374607431768211456) (hlt : x.natAbs < y.natAbs) (w : World) : Calls Tryd.prog 79 #[Nd h l true, Nd h' l' false] w (NmPost (x + y) w) := by
  have X := (((Own.start w).alloc #[.int .u64 (h : Int), .int .u64 (l : Int), .bool true] 59).alloc #[.int .u64 (h' : Int), .int .u64 (l' : Int), .bool false] 59).alloc #[.int .u64 0, .int .u64 0, .bool false] 59
  simp only [World.size_alloc] at X
  have LS := hide (fun W => r3less_any h l h' l' W hx.1.2.1 hy.1.2.1)
  rw [hx.1.2.2, hy.1.2.2, decide_eq_true hlt] at LS
  have PL := hide (fun W => r3minus_any h' l' h l W hy.1.1 hy.1.2.1 hx.1.1 hx.1.2.1)
  rw [hx.1.2.2, hy.1.2.2] at PL
  obtain ⟨q1, q2⟩ := sum_less hx.2 hy.2 (by decide) hlt
  have HE := hide (show (y.natAbs + 340282366920938463463374607431768211456 - x.natAbs) % 340282366920938463463374607431768211456 = (x + y).natAbs by rw [q1]; omega)
  have HSG := hide q2
  clear q1 q2 hlt
  generalize x.natAbs = N at *
  generalize y.natAbs = M at *
  generalize x + y = Z at *
  have hr := X.r3
  have HX := hide X
  have n0 : ¬ (w.heap.size = w.heap.size + 1 + 1) := by clear hr hb; omega
  have n1 : ¬ (w.heap.size + 1 + 1 = w.heap.size) := by clear hr hb; omega
  clear X hx hy hb
  go_enter Tryd.func79, Tryd.ntmps79
  go_wp2_with fail
  refine (LS.out _).mono ?_
  rintro e w0 ⟨rfl, hb⟩
  replace HX := hide (HX.out.to hb)
  clear hb hr
  have hr := HX.out.r3
  go_wp2_with fail
  go_region_held3 (fun w' => w'.cell? ⟨w.heap.size, 0, none⟩ = some (.int .u64 (h : Int)) ∧ w'.cell? ⟨w.heap.size, 1, none⟩ = some (.int .u64 (l : Int)) ∧ w'.cell? ⟨w.heap.size, 2, none⟩ = some (.bool true) ∧
      w'.cell? ⟨w.heap.size + 1, 0, none⟩ = some (.int .u64 (h' : Int)) ∧ w'.cell? ⟨w.heap.size + 1, 1, none⟩ = some (.int .u64 (l' : Int)) ∧ w'.cell? ⟨w.heap.size + 1, 2, none⟩ = some (.bool false)) (go_keep)
    (first
      | (go_at_call 78; ((with_reducible refine (PL.out _).mono ?_); rintro e w1 ⟨⟨ph, pl, rfl, hp⟩, hb⟩); have HP := hide hp; have MD := hide (fun W => r3made_any ph pl false W); (first | (replace HX := hide (HX.out.to hb)) | (replace HX := hide (HX.out.drew.to hb))); have hk := keeps hb; clear hb hp)
      | (go_at_call 61; ((with_reducible refine (MD.out _).mono ?_); rintro e w2 ⟨⟨s2, rfl, hs2⟩, hb⟩); have HG := hide hs2; (first | (replace HX := hide (HX.out.to hb)) | (replace HX := hide (HX.out.drew.to hb))); have hk2 := keeps hb; have hr2 := HX.out.r3; clear hb hs2))
  go_wp2
  exact bodyPost_ret (v := Nd ph pl s2) (by simp [results, Tryd.results79, hr2, go_sem]) rfl (NmPost.mk (wd_eq HP.out HE.out) HG.out HSG.out (by have HX := HX.out.1; have hz := HX.size; go_grown))
set_option maxRecDepth 100000 in
set_option maxHeartbeats 4000000 in
theorem n3sum_more_tf {h l h' l' : Nat}  {x y : Int} (hx : Nm h l true x) (hy : Nm h' l' false y) (hb : x.natAbs + y.natAbs < 340282366920938463463374607431768211456) (hlt : ¬ x.natAbs < y.natAbs) (w : World) : Calls Tryd.prog 79 #[Nd h l true, Nd h' l' false] w (NmPost (x + y) w) := by
  have X := (((Own.start w).alloc #[.int .u64 (h : Int), .int .u64 (l : Int), .bool true] 59).alloc #[.int .u64 (h' : Int), .int .u64 (l' : Int), .bool false] 59).alloc #[.int .u64 0, .int .u64 0, .bool false] 59
  simp only [World.size_alloc] at X
  have LS := hide (fun W => r3less_any h l h' l' W hx.1.2.1 hy.1.2.1)
  rw [hx.1.2.2, hy.1.2.2, decide_eq_false hlt] at LS
  have PL := hide (fun W => r3minus_any h l h' l' W hx.1.1 hx.1.2.1 hy.1.1 hy.1.2.1)
  rw [hx.1.2.2, hy.1.2.2] at PL
  obtain ⟨q1, q2⟩ := sum_more hx.2 hy.2 (by decide) hlt
  have HE := hide (show (x.natAbs + 340282366920938463463374607431768211456 - y.natAbs) % 340282366920938463463374607431768211456 = (x + y).natAbs by rw [q1]; omega)
  have HSG := hide q2
  clear q1 q2 hlt
  generalize x.natAbs = N at *
  generalize y.natAbs = M at *
  generalize x + y = Z at *
  have hr := X.r3
  have HX := hide X
  have n0 : ¬ (w.heap.size = w.heap.size + 1 + 1) := by clear hr hb; omega
  have n1 : ¬ (w.heap.size + 1 + 1 = w.heap.size) := by clear hr hb; omega
  clear X hx hy hb
  go_enter Tryd.func79, Tryd.ntmps79
  go_wp2_with fail
  refine (LS.out _).mono ?_
  rintro e w0 ⟨rfl, hb⟩
  replace HX := hide (HX.out.to hb)
  clear hb hr
  have hr := HX.out.r3
  go_wp2_with fail
  go_region_held3 (fun w' => w'.cell? ⟨w.heap.size, 0, none⟩ = some (.int .u64 (h : Int)) ∧ w'.cell? ⟨w.heap.size, 1, none⟩ = some (.int .u64 (l : Int)) ∧ w'.cell? ⟨w.heap.size, 2, none⟩ = some (.bool true) ∧
      w'.cell? ⟨w.heap.size + 1, 0, none⟩ = some (.int .u64 (h' : Int)) ∧ w'.cell? ⟨w.heap.size + 1, 1, none⟩ = some (.int .u64 (l' : Int)) ∧ w'.cell? ⟨w.heap.size + 1, 2, none⟩ = some (.bool false)) (go_keep)
    (first
      | (go_at_call 78; ((with_reducible refine (PL.out _).mono ?_); rintro e w1 ⟨⟨ph, pl, rfl, hp⟩, hb⟩); have HP := hide hp; have MD := hide (fun W => r3made_any ph pl true W); (first | (replace HX := hide (HX.out.to hb)) | (replace HX := hide (HX.out.drew.to hb))); have hk := keeps hb; clear hb hp)
      | (go_at_call 61; ((with_reducible refine (MD.out _).mono ?_); rintro e w2 ⟨⟨s2, rfl, hs2⟩, hb⟩); have HG := hide hs2; (first | (replace HX := hide (HX.out.to hb)) | (replace HX := hide (HX.out.drew.to hb))); have hk2 := keeps hb; have hr2 := HX.out.r3; clear hb hs2))
  go_wp2
  exact bodyPost_ret (v := Nd ph pl s2) (by simp [results, Tryd.results79, hr2, go_sem]) rfl (NmPost.mk (wd_eq HP.out HE.out) HG.out HSG.out (by have HX := HX.out.1; have hz := HX.size; go_grown))
set_option maxRecDepth 100000 in
theorem n3sum {h l h' l' : Nat} {s s' : Bool} {x y : Int} (hx : Nm h l s x) (hy : Nm h' l' s' y) (hb : x.natAbs + y.natAbs < 340282366920938463463374607431768211456) (w : World) : Calls Tryd.prog 79 #[Nd h l s, Nd h' l' s'] w (NmPost (x + y) w) := by
  cases s <;> cases s'
  · exact n3sum_same hx hy hb w
  · by_cases hlt : x.natAbs < y.natAbs
    · exact n3sum_less_ft hx hy hb hlt w
    · exact n3sum_more_ft hx hy hb hlt w
  · by_cases hlt : x.natAbs < y.natAbs
    · exact n3sum_less_tf hx hy hb hlt w
    · exact n3sum_more_tf hx hy hb hlt w
  · exact n3sum_same hx hy hb w
end Go.Proofs.YtgflgnbbkhikcaaDoor
