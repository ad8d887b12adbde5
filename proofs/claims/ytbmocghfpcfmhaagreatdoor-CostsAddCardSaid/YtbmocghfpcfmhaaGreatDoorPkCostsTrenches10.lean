/- Parts of one proof, joined: The reference's quotients (sewershedref03): Down, Up, FloorOf, CeilOf at integers: what each returns; nothing that was there is turned (printed by gen_rf3q.py). The reference's Sum and Order of integers of two words (sewershedref03): what each returns; nothing that was there is turned. The first side of a face that a point is outside of: what outer returns; nothing that was there is turned (printed by gen_lco.py). The last step of a law's row, once for all laws: where the call answers true and nothing that was there has turned, the row's outcome is reached. Maps whose keys are points or pairs of integers and whose elements are bools, that the call made: look-up and store. slices.IndexFunc and slices.ContainsFunc at integers, with a function that captures nothing and turns nothing. -/
import Derived.Test.YtbmocghfpcfmhaaGreatDoorPkCostsTrenches9
import Derived.Deep.RegionWith
import Derived.Deep.RegionHeld3
import Derived.Test.YtbmocghfpcfmhaaGreatDoorPkCostsTrenches8
import Derived.Deep.Cut
import Derived.Test.YtbmocghfpcfmhaaGreatDoorPkCostsTrenches2
import Derived.Maps.OwnOps
import Derived.DeepKeys5
import Derived.WideKeyPair
import Derived.Deep.QuietTactic
import Derived.BigQuiet
namespace Go.Proofs.YtbmocghfpcfmhaaGreatDoor
open Go.RowKit

/-- two words and a sign are an integer -/
def Nm (h l : Nat) (s : Bool) (z : Int) : Prop := Wd h l z.natAbs ∧ s = decide (z < 0)
def NmPost (z : Int) (w : World) (e : Ending) (w' : World) : Prop := (∃ (h l : Nat) (s : Bool), e = .returned (Nd h l s) ∧ Nm h l s z) ∧ Below w.heap.size w w'
theorem ZPost.nm {z : Int} {w : World} {e : Ending} {w' : World} : ZPost z w e w' → NmPost z w e w' := fun ⟨⟨h, l, he, hw⟩, hb⟩ => ⟨⟨h, l, _, he, hw, rfl⟩, hb⟩
theorem n3opp {h l : Nat} {s : Bool} {z : Int} (hn : Nm h l s z) (w : World) : Calls Tryz.prog 123 #[Nd h l s] w (NmPost (-z) w) := by
  obtain ⟨hw, rfl⟩ := hn
  exact (r3opp_any h l z w hw).mono fun _ _ h => h.nm
theorem n3isint {h l : Nat} {s : Bool} {z : Int} (hn : Nm h l s z) (w : World) : Calls Tryz.prog 68 #[Nd h l s] w (ZIntPost z w) := by
  obtain ⟨hw, rfl⟩ := hn
  exact r3isint_any h l z w hw
theorem n3down {h l h' l' : Nat} {s s' : Bool} {x y : Int} (hx : Nm h l s x) (hy : Nm h' l' s' y) (h0 : y ≠ 0) (w : World) : Calls Tryz.prog 69 #[Nd h l s, Nd h' l' s'] w (NmPost (fdv x y) w) := by
  obtain ⟨hx, e1⟩ := hx
  obtain ⟨hy, e2⟩ := hy
  cases s <;> cases s'
  · exact (r3down_ff h l h' l' x y w hx hy h0 e1.symm e2.symm).mono fun _ _ h => h.nm
  · exact (r3down_ft h l h' l' x y w hx hy h0 e1.symm e2.symm).mono fun _ _ h => h.nm
  · exact (r3down_tf h l h' l' x y w hx hy h0 e1.symm e2.symm).mono fun _ _ h => h.nm
  · exact (r3down_tt h l h' l' x y w hx hy h0 e1.symm e2.symm).mono fun _ _ h => h.nm
theorem n3ofint (n : Int) (w : World) (hn : -9223372036854775808 ≤ n ∧ n ≤ 9223372036854775807) : Calls Tryz.prog 71 #[.int .i64 n] w (NmPost n w) := (r3ofint_any n w hn).mono fun _ _ h => h.nm
theorem n3times (a b : Int) (w : World) (ha : -9223372036854775808 ≤ a ∧ a ≤ 9223372036854775807) (hb : -9223372036854775808 ≤ b ∧ b ≤ 9223372036854775807) :
    Calls Tryz.prog 70 #[.int .i64 a, .int .i64 b] w (NmPost (a * b) w) := (r3times_any a b w ha hb).mono fun _ _ h => h.nm
set_option maxRecDepth 100000 in
set_option maxHeartbeats 4000000 in
theorem n3up {h l h' l' : Nat} {s s' : Bool} {x y : Int} (hx : Nm h l s x) (hy : Nm h' l' s' y) (h0 : y ≠ 0) (w : World) : Calls Tryz.prog 72 #[Nd h l s, Nd h' l' s'] w (NmPost (cdv x y) w) := by
  have X := (((Own.start w).alloc #[.int .u64 (h : Int), .int .u64 (l : Int), .bool s] 113).alloc #[.int .u64 (h' : Int), .int .u64 (l' : Int), .bool s'] 113).alloc #[.int .u64 0, .int .u64 0, .bool false] 113
  simp only [World.size_alloc] at X
  have O1 := hide (fun W => n3opp hx W)
  have HY := hide hy
  have H0 := hide h0
  have V := hide (show cdv x y = -fdv (-x) y from rfl)
  have hr := X.r3
  clear hx hy h0
  generalize -x = x' at *
  have HX := hide X
  clear X
  go_enter Tryz.func72, Tryz.ntmps72
  go_wp2
  go_region_with (first
    | (go_at_call 123; ((with_reducible refine (O1.out _).mono ?_); rintro e w1 ⟨⟨ah, al, sa, rfl, ha⟩, hb⟩); have D1 := hide (fun W => n3down ha HY.out H0.out W); (first | (replace HX := hide (HX.out.to hb)) | (replace HX := hide (HX.out.drew.to hb)) | (replace HX := hide (HX.out.drew.drew.to hb))); have hr := HX.out.r3; clear hb ha)
    | (go_at_call 69; ((with_reducible refine (D1.out _).mono ?_); rintro e w2 ⟨⟨qh, ql, qs, rfl, hq⟩, hb⟩); have O2 := hide (fun W => n3opp hq W); (first | (replace HX := hide (HX.out.to hb)) | (replace HX := hide (HX.out.drew.to hb)) | (replace HX := hide (HX.out.drew.drew.to hb))); have hr := HX.out.r3; clear hb hq)
    | (go_at_call 123; ((with_reducible refine (O2.out _).mono ?_); rintro e w3 ⟨⟨rh, rl, rs, rfl, hn⟩, hb⟩); have HN := hide hn; (first | (replace HX := hide (HX.out.to hb)) | (replace HX := hide (HX.out.drew.to hb)) | (replace HX := hide (HX.out.drew.drew.to hb))); have hr := HX.out.r3; clear hb hn))
  all_goals go_wp2
  all_goals exact bodyPost_ret (v := Nd rh rl rs) (by simp [results, Tryz.results72, hr, go_sem]) rfl ⟨⟨rh, rl, rs, rfl, by rw [V.out]; exact HN.out⟩, by have HX := HX.out.1; have hz := HX.size; go_grown⟩
end Go.Proofs.YtbmocghfpcfmhaaGreatDoor

namespace Go.Proofs.YtbmocghfpcfmhaaGreatDoor
open Go.RowKit

theorem sum_same {x y : Int} {s : Bool} (hx : s = decide (x < 0)) (hy : s = decide (y < 0)) : (x + y).natAbs = x.natAbs + y.natAbs ∧ (x + y ≠ 0 → s = decide (x + y < 0)) := by
  cases s
  · have h1 := of_decide_eq_false hx.symm
    have h2 := of_decide_eq_false hy.symm
    exact ⟨by omega, fun _ => (decide_eq_false (by omega)).symm⟩
  · have h1 := of_decide_eq_true hx.symm
    have h2 := of_decide_eq_true hy.symm
    exact ⟨by omega, fun _ => (decide_eq_true (by omega)).symm⟩
theorem sum_less {x y : Int} {s s' : Bool} (hx : s = decide (x < 0)) (hy : s' = decide (y < 0)) (hs : s ≠ s') (h : x.natAbs < y.natAbs) : (x + y).natAbs = y.natAbs - x.natAbs ∧ (x + y ≠ 0 → s' = decide (x + y < 0)) := by
  cases s <;> cases s' <;> first | exact absurd rfl hs | skip
  · have h1 := of_decide_eq_false hx.symm
    have h2 := of_decide_eq_true hy.symm
    exact ⟨by omega, fun _ => (decide_eq_true (by omega)).symm⟩
  · have h1 := of_decide_eq_true hx.symm
    have h2 := of_decide_eq_false hy.symm
    exact ⟨by omega, fun _ => (decide_eq_false (by omega)).symm⟩
theorem sum_more {x y : Int} {s s' : Bool} (hx : s = decide (x < 0)) (hy : s' = decide (y < 0)) (hs : s ≠ s') (h : ¬ x.natAbs < y.natAbs) : (x + y).natAbs = x.natAbs - y.natAbs ∧ (x + y ≠ 0 → s = decide (x + y < 0)) := by
  cases s <;> cases s' <;> first | exact absurd rfl hs | skip
  · have h1 := of_decide_eq_false hx.symm
    have h2 := of_decide_eq_true hy.symm
    exact ⟨by omega, fun _ => (decide_eq_false (by omega)).symm⟩
  · have h1 := of_decide_eq_true hx.symm
    have h2 := of_decide_eq_false hy.symm
    exact ⟨by omega, fun h0 => (decide_eq_true (by omega)).symm⟩
theorem Nm.w {h l : Nat} {s : Bool} {z : Int} (hn : Nm h l s z) : Wd h l z.natAbs := hn.1
theorem Nm.lt {h l : Nat} {s : Bool} {z : Int} (hn : Nm h l s z) : z.natAbs < 340282366920938463463374607431768211456 := by
  have h1 := wd_lt hn.1.1 hn.1.2.1
  have h2 := hn.1.2.2
  omega
theorem NmPost.mk {z : Int} {h l : Nat} {s s' : Bool} {w w' : World} (hw : Wd h l z.natAbs) (h' : s' = (s && !decide (h = 0 ∧ l = 0))) (hs : z ≠ 0 → s = decide (z < 0)) (hb : Below w.heap.size w w') : NmPost z w (.returned (Nd h l s')) w' := (ZPost.mk hw h' hs hb).nm
set_option maxRecDepth 100000 in
set_option maxHeartbeats 4000000 in
theorem n3sum_same {h l h' l' : Nat} {s : Bool} {x y : Int} (hx : Nm h l s x) (hy : Nm h' l' s y) (hb : x.natAbs + y.natAbs < 340282366920938463463374607431768211456)  (w : World) : Calls Tryz.prog 143 #[Nd h l s, Nd h' l' s] w (NmPost (x + y) w) := by
  have X := (((Own.start w).alloc #[.int .u64 (h : Int), .int .u64 (l : Int), .bool s] 113).alloc #[.int .u64 (h' : Int), .int .u64 (l' : Int), .bool s] 113).alloc #[.int .u64 0, .int .u64 0, .bool false] 113
  simp only [World.size_alloc] at X
  have PL := hide (fun W => r3plus_any h l h' l' W hx.1.2.1 hy.1.2.1)
  rw [hx.1.2.2, hy.1.2.2] at PL
  obtain ⟨q1, q2⟩ := sum_same hx.2 hy.2
  have HE := hide (show (x.natAbs + y.natAbs) % 340282366920938463463374607431768211456 = (x + y).natAbs by rw [Nat.mod_eq_of_lt hb, q1])
  have HSG := hide q2
  clear q1 q2
  generalize x.natAbs + y.natAbs = N at *
  generalize x + y = Z at *
  have hr := X.r3
  have HX := hide X
  have n0 : ¬ (w.heap.size = w.heap.size + 1 + 1) := by clear hr hb; omega
  have n1 : ¬ (w.heap.size + 1 + 1 = w.heap.size) := by clear hr hb; omega
  clear X hx hy hb
  go_enter Tryz.func143, Tryz.ntmps143
  go_wp2_with fail
  go_region_held3 (fun w' => w'.cell? ⟨w.heap.size, 0, none⟩ = some (.int .u64 (h : Int)) ∧ w'.cell? ⟨w.heap.size, 1, none⟩ = some (.int .u64 (l : Int)) ∧ w'.cell? ⟨w.heap.size, 2, none⟩ = some (.bool s) ∧
      w'.cell? ⟨w.heap.size + 1, 0, none⟩ = some (.int .u64 (h' : Int)) ∧ w'.cell? ⟨w.heap.size + 1, 1, none⟩ = some (.int .u64 (l' : Int)) ∧ w'.cell? ⟨w.heap.size + 1, 2, none⟩ = some (.bool s)) (go_keep)
    (first
      | (go_at_call 120; ((with_reducible refine (PL.out _).mono ?_); rintro e w1 ⟨⟨ph, pl, rfl, hp⟩, hb⟩); have HP := hide hp; have MD := hide (fun W => r3made_any ph pl s W); (first | (replace HX := hide (HX.out.to hb)) | (replace HX := hide (HX.out.drew.to hb))); have hk := keeps hb; clear hb hp)
      | (go_at_call 121; ((with_reducible refine (MD.out _).mono ?_); rintro e w2 ⟨⟨s2, rfl, hs2⟩, hb⟩); have HG := hide hs2; (first | (replace HX := hide (HX.out.to hb)) | (replace HX := hide (HX.out.drew.to hb))); have hk2 := keeps hb; have hr2 := HX.out.r3; clear hb hs2))
  go_wp2
  exact bodyPost_ret (v := Nd ph pl s2) (by simp [results, Tryz.results143, hr2, go_sem]) rfl (NmPost.mk (wd_eq HP.out HE.out) HG.out HSG.out (by have HX := HX.out.1; have hz := HX.size; go_grown))
set_option maxRecDepth 100000 in
set_option maxHeartbeats 4000000 in
theorem n3sum_less_ft {h l h' l' : Nat}  {x y : Int} (hx : Nm h l false x) (hy : Nm h' l' true y) (hb : x.natAbs + y.natAbs < 340282366920938463463374607431768211456) (hlt : x.natAbs < y.natAbs) (w : World) : Calls Tryz.prog 143 #[Nd h l false, Nd h' l' true] w (NmPost (x + y) w) := by
  have X := (((Own.start w).alloc #[.int .u64 (h : Int), .int .u64 (l : Int), .bool false] 113).alloc #[.int .u64 (h' : Int), .int .u64 (l' : Int), .bool true] 113).alloc #[.int .u64 0, .int .u64 0, .bool false] 113
  simp only [World.size_alloc] at X
  have LS := hide (fun W => r3less_any h l h' l' W hx.1.2.1 hy.1.2.1)
  rw [hx.1.2.2, hy.1.2.2, decide_eq_true hlt] at LS
  have PL := hide (fun W => r3minus_any h' l' h l W hy.1.1 hy.1.2.1 hx.1.1 hx.1.2.1)
  rw [hx.1.2.2, hy.1.2.2] at PL
  obtain ⟨q1, q2⟩ := sum_less hx.2 hy.2 (by decide) hlt
  have HE := hide (show (y.natAbs + 340282366920938463463374607431768211456 - x.natAbs) % 340282366920938463463374607431768211456 = (x + y).natAbs by rw [q1]; omega)
  have HSG := hide q2
  clear q1 q2 hlt
  generalize x.natAbs = N at *
  generalize y.natAbs = M at *
  generalize x + y = Z at *
  have hr := X.r3
  have HX := hide X
  have n0 : ¬ (w.heap.size = w.heap.size + 1 + 1) := by clear hr hb; omega
  have n1 : ¬ (w.heap.size + 1 + 1 = w.heap.size) := by clear hr hb; omega
  clear X hx hy hb
  go_enter Tryz.func143, Tryz.ntmps143
  go_wp2_with fail
  refine (LS.out _).mono ?_
  rintro e w0 ⟨rfl, hb⟩
  replace HX := hide (HX.out.to hb)
  clear hb hr
  have hr := HX.out.r3
  go_wp2_with fail
  go_region_held3 (fun w' => w'.cell? ⟨w.heap.size, 0, none⟩ = some (.int .u64 (h : Int)) ∧ w'.cell? ⟨w.heap.size, 1, none⟩ = some (.int .u64 (l : Int)) ∧ w'.cell? ⟨w.heap.size, 2, none⟩ = some (.bool false) ∧
      w'.cell? ⟨w.heap.size + 1, 0, none⟩ = some (.int .u64 (h' : Int)) ∧ w'.cell? ⟨w.heap.size + 1, 1, none⟩ = some (.int .u64 (l' : Int)) ∧ w'.cell? ⟨w.heap.size + 1, 2, none⟩ = some (.bool true)) (go_keep)
    (first
      | (go_at_call 146; ((with_reducible refine (PL.out _).mono ?_); rintro e w1 ⟨⟨ph, pl, rfl, hp⟩, hb⟩); have HP := hide hp; have MD := hide (fun W => r3made_any ph pl true W); (first | (replace HX := hide (HX.out.to hb)) | (replace HX := hide (HX.out.drew.to hb))); have hk := keeps hb; clear hb hp)
      | (go_at_call 121; ((with_reducible refine (MD.out _).mono ?_); rintro e w2 ⟨⟨s2, rfl, hs2⟩, hb⟩); have HG := hide hs2; (first | (replace HX := hide (HX.out.to hb)) | (replace HX := hide (HX.out.drew.to hb))); have hk2 := keeps hb; have hr2 := HX.out.r3; clear hb hs2))
  go_wp2
  exact bodyPost_ret (v := Nd ph pl s2) (by simp [results, Tryz.results143, hr2, go_sem]) rfl (NmPost.mk (wd_eq HP.out HE.out) HG.out HSG.out (by have HX := HX.out.1; have hz := HX.size; go_grown))
set_option maxRecDepth 100000 in
set_option maxHeartbeats 4000000 in
theorem n3sum_more_ft {h l h' l' : Nat}  {x y : Int} (hx : Nm h l false x) (hy : Nm h' l' true y) (hb : x.natAbs + y.natAbs < 340282366920938463463374607431768211456) (hlt : ¬ x.natAbs < y.natAbs) (w : World) : Calls Tryz.prog 143 #[Nd h l false, Nd h' l' true] w (NmPost (x + y) w) := by
  have X := (((Own.start w).alloc #[.int .u64 (h : Int), .int .u64 (l : Int), .bool false] 113).alloc #[.int .u64 (h' : Int), .int .u64 (l' : Int), .bool true] 113).alloc #[.int .u64 0, .int .u64 0, .bool false] 113
  simp only [World.size_alloc] at X
  have LS := hide (fun W => r3less_any h l h' l' W hx.1.2.1 hy.1.2.1)
  rw [hx.1.2.2, hy.1.2.2, decide_eq_false hlt] at LS
  have PL := hide (fun W => r3minus_any h l h' l' W hx.1.1 hx.1.2.1 hy.1.1 hy.1.2.1)
  rw [hx.1.2.2, hy.1.2.2] at PL
  obtain ⟨q1, q2⟩ := sum_more hx.2 hy.2 (by decide) hlt
  have HE := hide (show (x.natAbs + 340282366920938463463374607431768211456 - y.natAbs) % 340282366920938463463374607431768211456 = (x + y).natAbs by rw [q1]; omega)
  have HSG := hide q2
  clear q1 q2 hlt
  generalize x.natAbs = N at *
  generalize y.natAbs = M at *
  generalize x + y = Z at *
  have hr := X.r3
  have HX := hide X
  have n0 : ¬ (w.heap.size = w.heap.size + 1 + 1) := by clear hr hb; omega
  have n1 : ¬ (w.heap.size + 1 + 1 = w.heap.size) := by clear hr hb; omega
  clear X hx hy hb
  go_enter Tryz.func143, Tryz.ntmps143
  go_wp2_with fail
  refine (LS.out _).mono ?_
  rintro e w0 ⟨rfl, hb⟩
  replace HX := hide (HX.out.to hb)
  clear hb hr
  have hr := HX.out.r3
  go_wp2_with fail
  go_region_held3 (fun w' => w'.cell? ⟨w.heap.size, 0, none⟩ = some (.int .u64 (h : Int)) ∧ w'.cell? ⟨w.heap.size, 1, none⟩ = some (.int .u64 (l : Int)) ∧ w'.cell? ⟨w.heap.size, 2, none⟩ = some (.bool false) ∧
      w'.cell? ⟨w.heap.size + 1, 0, none⟩ = some (.int .u64 (h' : Int)) ∧ w'.cell? ⟨w.heap.size + 1, 1, none⟩ = some (.int .u64 (l' : Int)) ∧ w'.cell? ⟨w.heap.size + 1, 2, none⟩ = some (.bool true)) (go_keep)
    (first
      | (go_at_call 146; ((with_reducible refine (PL.out _).mono ?_); rintro e w1 ⟨⟨ph, pl, rfl, hp⟩, hb⟩); have HP := hide hp; have MD := hide (fun W => r3made_any ph pl false W); (first | (replace HX := hide (HX.out.to hb)) | (replace HX := hide (HX.out.drew.to hb))); have hk := keeps hb; clear hb hp)
      | (go_at_call 121; ((with_reducible refine (MD.out _).mono ?_); rintro e w2 ⟨⟨s2, rfl, hs2⟩, hb⟩); have HG := hide hs2; (first | (replace HX := hide (HX.out.to hb)) | (replace HX := hide (HX.out.drew.to hb))); have hk2 := keeps hb; have hr2 := HX.out.r3; clear hb hs2))
  go_wp2
  exact bodyPost_ret (v := Nd ph pl s2) (by simp [results, Tryz.results143, hr2, go_sem]) rfl (NmPost.mk (wd_eq HP.out HE.out) HG.out HSG.out (by have HX := HX.out.1; have hz := HX.size; go_grown))
set_option maxRecDepth 100000 in
set_option maxHeartbeats 4000000 in
theorem n3sum_less_tf {h l h' l' : Nat}  {x y : Int} (hx : Nm h l true x) (hy : Nm h' l' false y) (hb : x.natAbs + y.natAbs < 340282366920938463463374607431768211456) (hlt : x.natAbs < y.natAbs) (w : World) : Calls Tryz.prog 143 #[Nd h l true, Nd h' l' false] w (NmPost (x + y) w) := by
  have X := (((Own.start w).alloc #[.int .u64 (h : Int), .int .u64 (l : Int), .bool true] 113).alloc #[.int .u64 (h' : Int), .int .u64 (l' : Int), .bool false] 113).alloc #[.int .u64 0, .int .u64 0, .bool false] 113
  simp only [World.size_alloc] at X
  have LS := hide (fun W => r3less_any h l h' l' W hx.1.2.1 hy.1.2.1)
  rw [hx.1.2.2, hy.1.2.2, decide_eq_true hlt] at LS
  have PL := hide (fun W => r3minus_any h' l' h l W hy.1.1 hy.1.2.1 hx.1.1 hx.1.2.1)
  rw [hx.1.2.2, hy.1.2.2] at PL
  obtain ⟨q1, q2⟩ := sum_less hx.2 hy.2 (by decide) hlt
  have HE := hide (show (y.natAbs + 340282366920938463463374607431768211456 - x.natAbs) % 340282366920938463463374607431768211456 = (x + y).natAbs by rw [q1]; omega)
  have HSG := hide q2
  clear q1 q2 hlt
  generalize x.natAbs = N at *
  generalize y.natAbs = M at *
  generalize x + y = Z at *
  have hr := X.r3
  have HX := hide X
  have n0 : ¬ (w.heap.size = w.heap.size + 1 + 1) := by clear hr hb; omega
  have n1 : ¬ (w.heap.size + 1 + 1 = w.heap.size) := by clear hr hb; omega
  clear X hx hy hb
  go_enter Tryz.func143, Tryz.ntmps143
  go_wp2_with fail
  refine (LS.out _).mono ?_
  rintro e w0 ⟨rfl, hb⟩
  replace HX := hide (HX.out.to hb)
  clear hb hr
  have hr := HX.out.r3
  go_wp2_with fail
  go_region_held3 (fun w' => w'.cell? ⟨w.heap.size, 0, none⟩ = some (.int .u64 (h : Int)) ∧ w'.cell? ⟨w.heap.size, 1, none⟩ = some (.int .u64 (l : Int)) ∧ w'.cell? ⟨w.heap.size, 2, none⟩ = some (.bool true) ∧
      w'.cell? ⟨w.heap.size + 1, 0, none⟩ = some (.int .u64 (h' : Int)) ∧ w'.cell? ⟨w.heap.size + 1, 1, none⟩ = some (.int .u64 (l' : Int)) ∧ w'.cell? ⟨w.heap.size + 1, 2, none⟩ = some (.bool false)) (go_keep)
    (first
      | (go_at_call 146; ((with_reducible refine (PL.out _).mono ?_); rintro e w1 ⟨⟨ph, pl, rfl, hp⟩, hb⟩); have HP := hide hp; have MD := hide (fun W => r3made_any ph pl false W); (first | (replace HX := hide (HX.out.to hb)) | (replace HX := hide (HX.out.drew.to hb))); have hk := keeps hb; clear hb hp)
      | (go_at_call 121; ((with_reducible refine (MD.out _).mono ?_); rintro e w2 ⟨⟨s2, rfl, hs2⟩, hb⟩); have HG := hide hs2; (first | (replace HX := hide (HX.out.to hb)) | (replace HX := hide (HX.out.drew.to hb))); have hk2 := keeps hb; have hr2 := HX.out.r3; clear hb hs2))
  go_wp2
  exact bodyPost_ret (v := Nd ph pl s2) (by simp [results, Tryz.results143, hr2, go_sem]) rfl (NmPost.mk (wd_eq HP.out HE.out) HG.out HSG.out (by have HX := HX.out.1; have hz := HX.size; go_grown))
set_option maxRecDepth 100000 in
set_option maxHeartbeats 4000000 in
theorem n3sum_more_tf {h l h' l' : Nat}  {x y : Int} (hx : Nm h l true x) (hy : Nm h' l' false y) (hb : x.natAbs + y.natAbs < 340282366920938463463374607431768211456) (hlt : ¬ x.natAbs < y.natAbs) (w : World) : Calls Tryz.prog 143 #[Nd h l true, Nd h' l' false] w (NmPost (x + y) w) := by
  have X := (((Own.start w).alloc #[.int .u64 (h : Int), .int .u64 (l : Int), .bool true] 113).alloc #[.int .u64 (h' : Int), .int .u64 (l' : Int), .bool false] 113).alloc #[.int .u64 0, .int .u64 0, .bool false] 113
  simp only [World.size_alloc] at X
  have LS := hide (fun W => r3less_any h l h' l' W hx.1.2.1 hy.1.2.1)
  rw [hx.1.2.2, hy.1.2.2, decide_eq_false hlt] at LS
  have PL := hide (fun W => r3minus_any h l h' l' W hx.1.1 hx.1.2.1 hy.1.1 hy.1.2.1)
  rw [hx.1.2.2, hy.1.2.2] at PL
  obtain ⟨q1, q2⟩ := sum_more hx.2 hy.2 (by decide) hlt
  have HE := hide (show (x.natAbs + 340282366920938463463374607431768211456 - y.natAbs) % 340282366920938463463374607431768211456 = (x + y).natAbs by rw [q1]; omega)
  have HSG := hide q2
  clear q1 q2 hlt
  generalize x.natAbs = N at *
  generalize y.natAbs = M at *
  generalize x + y = Z at *
  have hr := X.r3
  have HX := hide X
  have n0 : ¬ (w.heap.size = w.heap.size + 1 + 1) := by clear hr hb; omega
  have n1 : ¬ (w.heap.size + 1 + 1 = w.heap.size) := by clear hr hb; omega
  clear X hx hy hb
  go_enter Tryz.func143, Tryz.ntmps143
  go_wp2_with fail
  refine (LS.out _).mono ?_
  rintro e w0 ⟨rfl, hb⟩
  replace HX := hide (HX.out.to hb)
  clear hb hr
  have hr := HX.out.r3
  go_wp2_with fail
  go_region_held3 (fun w' => w'.cell? ⟨w.heap.size, 0, none⟩ = some (.int .u64 (h : Int)) ∧ w'.cell? ⟨w.heap.size, 1, none⟩ = some (.int .u64 (l : Int)) ∧ w'.cell? ⟨w.heap.size, 2, none⟩ = some (.bool true) ∧
      w'.cell? ⟨w.heap.size + 1, 0, none⟩ = some (.int .u64 (h' : Int)) ∧ w'.cell? ⟨w.heap.size + 1, 1, none⟩ = some (.int .u64 (l' : Int)) ∧ w'.cell? ⟨w.heap.size + 1, 2, none⟩ = some (.bool false)) (go_keep)
    (first
      | (go_at_call 146; ((with_reducible refine (PL.out _).mono ?_); rintro e w1 ⟨⟨ph, pl, rfl, hp⟩, hb⟩); have HP := hide hp; have MD := hide (fun W => r3made_any ph pl true W); (first | (replace HX := hide (HX.out.to hb)) | (replace HX := hide (HX.out.drew.to hb))); have hk := keeps hb; clear hb hp)
      | (go_at_call 121; ((with_reducible refine (MD.out _).mono ?_); rintro e w2 ⟨⟨s2, rfl, hs2⟩, hb⟩); have HG := hide hs2; (first | (replace HX := hide (HX.out.to hb)) | (replace HX := hide (HX.out.drew.to hb))); have hk2 := keeps hb; have hr2 := HX.out.r3; clear hb hs2))
  go_wp2
  exact bodyPost_ret (v := Nd ph pl s2) (by simp [results, Tryz.results143, hr2, go_sem]) rfl (NmPost.mk (wd_eq HP.out HE.out) HG.out HSG.out (by have HX := HX.out.1; have hz := HX.size; go_grown))
set_option maxRecDepth 100000 in
theorem n3sum {h l h' l' : Nat} {s s' : Bool} {x y : Int} (hx : Nm h l s x) (hy : Nm h' l' s' y) (hb : x.natAbs + y.natAbs < 340282366920938463463374607431768211456) (w : World) : Calls Tryz.prog 143 #[Nd h l s, Nd h' l' s'] w (NmPost (x + y) w) := by
  cases s <;> cases s'
  · exact n3sum_same hx hy hb w
  · by_cases hlt : x.natAbs < y.natAbs
    · exact n3sum_less_ft hx hy hb hlt w
    · exact n3sum_more_ft hx hy hb hlt w
  · by_cases hlt : x.natAbs < y.natAbs
    · exact n3sum_less_tf hx hy hb hlt w
    · exact n3sum_more_tf hx hy hb hlt w
  · exact n3sum_same hx hy hb w
end Go.Proofs.YtbmocghfpcfmhaaGreatDoor

namespace Go.Proofs.YtbmocghfpcfmhaaGreatDoor
open Go Go.RowKit

/-- the first side on the right of which a point is -/
def otA (t : Tri) (p : Pnt) : Int := if trn t.p t.q p < 0 then 0 else if trn t.q t.r p < 0 then 1 else if trn t.r t.p p < 0 then 2 else -1
theorem otA_on (t : Tri) (p : Pnt) : otA t p < 0 ↔ onB t p = true := by
  simp only [otA, onB, Bool.and_eq_true, decide_eq_true_eq]
  split
  · omega
  · split
    · omega
    · split <;> omega
abbrev cnC (s t u : Spt) : Array Value := #[.int .i64 s.x, .int .i64 s.y, .int .i64 s.z, .int .i64 t.x, .int .i64 t.y, .int .i64 t.z, .int .i64 u.x, .int .i64 u.y, .int .i64 u.z]
set_option maxRecDepth 100000 in
set_option maxHeartbeats 8000000 in
theorem lcouter_any (m : Msh) (a : MshA) (i : Nat) (p : Pnt) (w : World) (hm : MshSl w m a) (hi : i < m.fs.length) (hk : OkF m.ss m.fs[i]) (hp : p.in) :
    Calls Tryz.prog 167 #[m.val a, .int .i64 (i : Int), p.val] w (RetW (.int .i64 (otA (triA m.ss m.fs[i]) p)) w) := by
  have CR := hide (fun W h => lccorners_any m a i W h hi hk)
  have HM := hide hm
  unfold cnV RetW at CR
  have E : Hid (otA (triA m.ss m.fs[i]) p = otA ⟨(spA m.ss m.fs[i].a).pt, (spA m.ss m.fs[i].b).pt, (spA m.ss m.fs[i].c).pt⟩ p) := hide rfl
  have T0 := hide (fun W => lcturn_any (spA m.ss m.fs[i].a).pt (spA m.ss m.fs[i].b).pt p W hk.i.1 hk.i.2.1 hp)
  have T1 := hide (fun W => lcturn_any (spA m.ss m.fs[i].b).pt (spA m.ss m.fs[i].c).pt p W hk.i.2.1 hk.i.2.2 hp)
  have T2 := hide (fun W => lcturn_any (spA m.ss m.fs[i].c).pt (spA m.ss m.fs[i].a).pt p W hk.i.2.2 hk.i.1 hp)
  rw [E.out]
  clear hm hk hp E
  generalize spA m.ss m.fs[i].a = s at *
  generalize spA m.ss m.fs[i].b = t at *
  generalize spA m.ss m.fs[i].c = u at *
  have A0 := hide (fun W => lcat_any s W)
  have A1 := hide (fun W => lcat_any t W)
  have A2 := hide (fun W => lcat_any u W)
  unfold RetW at T0 T1 T2 A0 A1 A2
  have E : Hid (otA ⟨s.pt, t.pt, u.pt⟩ p = if trn s.pt t.pt p < 0 then 0 else if trn t.pt u.pt p < 0 then 1 else if trn u.pt s.pt p < 0 then 2 else -1) := hide rfl
  rw [E.out]
  clear E
  obtain ⟨R, hR⟩ : ∃ R : Int, R = if trn s.pt t.pt p < 0 then 0 else if trn t.pt u.pt p < 0 then 1 else if trn u.pt s.pt p < 0 then 2 else -1 := ⟨_, rfl⟩
  rw [← hR]
  replace hR := hide hR
  generalize trn s.pt t.pt p = n0 at *
  generalize trn t.pt u.pt p = n1 at *
  generalize trn u.pt s.pt p = n2 at *
  obtain ⟨A1', c1, A2', c2⟩ := a
  have X := ((Own.start w).alloc #[.slice A1' m.ss.length c1, .slice A2' m.fs.length c2] 25).alloc #[.int .i64 p.x, .int .i64 p.y] 27
  simp only [World.size_alloc] at X
  have hr := X.r2
  unfold Spt.pt at *
  obtain ⟨sx, sy, sz⟩ := s
  obtain ⟨tx, ty, tz⟩ := t
  obtain ⟨ux, uy, uz⟩ := u
  simp only at *
  go_enter Tryz.func167, Tryz.ntmps167
  go_wp2_with fail
  refine (CR.out _ (HM.out.below X.1)).mono ?_
  rintro e w1 ⟨rfl, hb⟩
  have HX := hide ((X.to hb).alloc #[.int .i64 sx, .int .i64 sy, .int .i64 sz, .int .i64 tx, .int .i64 ty, .int .i64 tz, .int .i64 ux, .int .i64 uy, .int .i64 uz] 200)
  clear hb hr X CR HM
  have hr := HX.out.r3
  go_wp2
  go_loopw [12] (fun v12 wr => ∃ k : Nat, k ≤ 3 ∧ v12 = .int .i64 k ∧ Hid (Own w wr [(w1.heap.size, 200, #[.int .i64 sx, .int .i64 sy, .int .i64 sz, .int .i64 tx, .int .i64 ty, .int .i64 tz, .int .i64 ux, .int .i64 uy, .int .i64 uz]), (w.heap.size + 1, 27, #[.int .i64 p.x, .int .i64 p.y]), (w.heap.size, 25, #[.slice A1' m.ss.length c1, .slice A2' m.fs.length c2])]) ∧ Hid ((0 < k → ¬ n0 < 0) ∧ (1 < k → ¬ n1 < 0) ∧ (2 < k → ¬ n2 < 0))) (fun v _ => 3 - (intOf v).toNat)
  case atStart => exact ⟨0, by omega, rfl, HX, hide ⟨by omega, by omega, by omega⟩⟩
  case round =>
    obtain ⟨k, hk, rfl, HX, HN⟩ := hrel
    have hr := HX.out.r3
    have NE := ownw_ne HX.out
    have C1 := ownw_r3 HX.out
    obtain rfl | rfl | rfl | rfl : k = 0 ∨ k = 1 ∨ k = 2 ∨ k = 3 := by omega
    · have s1 : IntKind.i64.wrap 1 = 1 := by decide
      have s2 : (1 : Int).tmod 3 = 1 := by decide
      go_upto_region 5 with (fail)
      refine wp_region_own (w := w) (by kernel_rfl) (by kernel_rfl) HX.out ?_
      repeat (go_big_quiet_step ((rename_i y; first | with_reducible exact own_call (A0.out _) | with_reducible exact own_call (A1.out _) | with_reducible exact own_call (A2.out _) | with_reducible exact own_call (T0.out _))))
      refine wpQuiet_nil ?_
      rintro _ ⟨⟨W, HW⟩, rfl⟩
      have HX2 := hide HW
      clear NE C1 HW hr
      by_cases h : n0 < 0
      · have HB := hide HX2.out.1
        have EQ : Hid (R = 0) := hide (by
          have := HN.out
          rw [hR.out, if_pos h])
        go_wp2
        go_ret
        exact ⟨ret_int EQ.out.symm, HB.out⟩
      · have HN2 : Hid ((0 < 1 → ¬ n0 < 0) ∧ (1 < 1 → ¬ n1 < 0) ∧ (2 < 1 → ¬ n2 < 0)) := hide (by
          have := HN.out
          exact ⟨by omega, by omega, by omega⟩)
        go_wp2
        go_roundw
        case rel => exact ⟨1, by omega, by go_num, HX2, HN2⟩
        case measure => simp [intOf]
    · have s1 : IntKind.i64.wrap 2 = 2 := by decide
      have s2 : (2 : Int).tmod 3 = 2 := by decide
      go_upto_region 5 with (fail)
      refine wp_region_own (w := w) (by kernel_rfl) (by kernel_rfl) HX.out ?_
      repeat (go_big_quiet_step ((rename_i y; first | with_reducible exact own_call (A0.out _) | with_reducible exact own_call (A1.out _) | with_reducible exact own_call (A2.out _) | with_reducible exact own_call (T1.out _))))
      refine wpQuiet_nil ?_
      rintro _ ⟨⟨W, HW⟩, rfl⟩
      have HX2 := hide HW
      clear NE C1 HW hr
      by_cases h : n1 < 0
      · have HB := hide HX2.out.1
        have EQ : Hid (R = 1) := hide (by
          have := HN.out
          rw [hR.out, if_neg (this.1 (by omega)), if_pos h])
        go_wp2
        go_ret
        exact ⟨ret_int EQ.out.symm, HB.out⟩
      · have HN2 : Hid ((0 < 2 → ¬ n0 < 0) ∧ (1 < 2 → ¬ n1 < 0) ∧ (2 < 2 → ¬ n2 < 0)) := hide (by
          have := HN.out
          exact ⟨by omega, by omega, by omega⟩)
        go_wp2
        go_roundw
        case rel => exact ⟨2, by omega, by go_num, HX2, HN2⟩
        case measure => simp [intOf]
    · have s1 : IntKind.i64.wrap 3 = 3 := by decide
      have s2 : (3 : Int).tmod 3 = 0 := by decide
      go_upto_region 5 with (fail)
      refine wp_region_own (w := w) (by kernel_rfl) (by kernel_rfl) HX.out ?_
      repeat (go_big_quiet_step ((rename_i y; first | with_reducible exact own_call (A0.out _) | with_reducible exact own_call (A1.out _) | with_reducible exact own_call (A2.out _) | with_reducible exact own_call (T2.out _))))
      refine wpQuiet_nil ?_
      rintro _ ⟨⟨W, HW⟩, rfl⟩
      have HX2 := hide HW
      clear NE C1 HW hr
      by_cases h : n2 < 0
      · have HB := hide HX2.out.1
        have EQ : Hid (R = 2) := hide (by
          have := HN.out
          rw [hR.out, if_neg (this.1 (by omega)), if_neg (this.2.1 (by omega)), if_pos h])
        go_wp2
        go_ret
        exact ⟨ret_int EQ.out.symm, HB.out⟩
      · have HN2 : Hid ((0 < 3 → ¬ n0 < 0) ∧ (1 < 3 → ¬ n1 < 0) ∧ (2 < 3 → ¬ n2 < 0)) := hide (by
          have := HN.out
          exact ⟨by omega, by omega, by omega⟩)
        go_wp2
        go_roundw
        case rel => exact ⟨3, by omega, by go_num, HX2, HN2⟩
        case measure => simp [intOf]
    · have EQ : Hid (R = -1) := hide (by
        have := HN.out
        rw [hR.out, if_neg (this.1 (by omega)), if_neg (this.2.1 (by omega)), if_neg (this.2.2 (by omega))])
      have HB := hide HX.out.1
      clear NE C1
      go_wp2
      go_ret
      exact ⟨ret_int EQ.out.symm, HB.out⟩
end Go.Proofs.YtbmocghfpcfmhaaGreatDoor

namespace Go.Proofs.YtbmocghfpcfmhaaGreatDoor
open Go.RowKit Go.ChangeShapes Go.WideShapes Go.ChangeAt

theorem own : ownKnob Tryz.prog.godebug = none := by kernel_rfl
theorem laidOut : laidOutB Tryz.prog = true := by kernel_rfl
section
variable {H : Type} {enc : TypeId × Value → H} {P : Program}
theorem trodAll_stays (hl : laidOutB P = true) {W W' : World} {sp : Nat → Bool} (hb : Below W.heap.size W W') :
    ∀ (ts : List TypeId) (vs : List Value) (ds : List (DataW H)) (ps : List MemPlace), ts.all (fun t => P.readableRec t && decide (t < P.types.size)) = true →
      DataW.TrodAll enc P W 0 (fun _ => true) true ts vs ds ps → (∀ p ∈ ps, p.block < W.heap.size) → (∀ p ∈ ps, sp p.block = true) → DataW.TrodAll enc P W' 0 sp true ts vs ds ps
  | [], vs, ds, ps, _, h, _, _ => by obtain ⟨rfl, rfl, rfl⟩ := trodAll_nil h; exact trodAll_mk0
  | t :: ts, vs, ds, ps, hr, h, hlt, hsp => by
    obtain ⟨v, vs', d, ds', p, q, rfl, rfl, rfl, h1, h2⟩ := trodAll_cons h
    simp only [List.all_cons, Bool.and_eq_true, decide_eq_true_eq] at hr
    exact trodAll_cons_mk (WideElems.Trod_stays hl hr.1.1 hr.1.2 h1 (fun x hx => hb.same (hlt x (by simp [hx]))) (fun x hx => hsp x (by simp [hx])))
      (trodAll_stays hl hb ts vs' ds' q hr.2 h2 (fun x hx => hlt x (by simp [hx])) (fun x hx => hsp x (by simp [hx])))
theorem trodAll_length : ∀ {w : World} {base : Nat} {sp : Nat → Bool} {hd : Bool} (ts : List TypeId) (vs : List Value) (ds : List (DataW H)) (ps : List MemPlace), DataW.TrodAll enc P w base sp hd ts vs ds ps → ds.length = ts.length
  | _, _, _, _, [], vs, ds, ps, h => by obtain ⟨rfl, rfl, rfl⟩ := trodAll_nil h; rfl
  | _, _, _, _, t :: ts, vs, ds, ps, h => by
    obtain ⟨v, vs', d, ds', p, q, rfl, rfl, rfl, h1, h2⟩ := trodAll_cons h
    simp [trodAll_length ts vs' ds' q h2]
theorem law_post {fn : Func} {s : ChangeSpec} {W W' : World} {args : Array Value} {ds gs : List (DataW H)} {before : List MemPlace} (hl : laidOutB P = true)
    (hread : fn.params.toList.all (fun t => P.readableRec t && decide (t < P.types.size)) = true) (hv : s.vars = []) (tb : TypeId) (hres : fn.resultTypes = #[tb]) (htb : P.underlying tb = some .bool)
    (hspec : ∀ ds : List (DataW H), ds.length = fn.params.size → s.fn H (ds ++ []) = { results := [.lit (.bool true)], args := ds })
    (hW : DataW.Whole enc P fn.params.toList s.vars false W args.toList ds gs before) (hb : Below W.heap.size W W') : s.post enc P fn false true false false W args (.bool true) W' := by
  have hW' := hW
  obtain ⟨p, q, hA, hV, hpq, _, _⟩ := hW
  rw [hv] at hV
  obtain ⟨rfl, rfl⟩ := trodVars_none hV
  have hlen : ds.length = fn.params.size := by simpa using trodAll_length _ _ _ _ hA
  have e := hspec ds hlen
  simp only [List.append_nil] at hpq
  subst hpq
  refine post_of_below (pa := before) (pv := []) hW' ?_ ?_ ?_ (by simp) hb ?_
  · intro b sp hd
    rw [e, hres]
    exact trodAll_mk1 (shut_bool htb true)
  · intro sp hsp
    rw [e]
    exact trodAll_stays hl hb _ _ _ _ hread hA (fun x hx => hW'.lt x hx) hsp
  · intro sp _
    rw [hv, e]
    rfl
  · exact ok_one hres rfl (okWide_bool_mk htb true)
end
end Go.Proofs.YtbmocghfpcfmhaaGreatDoor

namespace Go.Proofs.YtbmocghfpcfmhaaGreatDoor
open Go Go.RowKit Go.WideMaps

theorem wf_i64 {n : Int} (h : i64 n) : (Lit.int .i64 n).wf = true := by
  unfold i64 at h
  simp [Lit.wf, IntKind.min, IntKind.max, IntKind.signed, IntKind.bits]
  omega
theorem pt_keyed : Maps.Keyed Tryz.prog 27 := Maps.Keyed.of_law (deep_law_gate laidOut (of_decide_eq_true (by kernel_rfl)) (of_decide_eq_true (by kernel_rfl)) (by kernel_rfl) (by kernel_rfl))
theorem sd_keyed : Maps.Keyed Tryz.prog 150 := Maps.Keyed.of_law (deep_law_gate laidOut (of_decide_eq_true (by kernel_rfl)) (of_decide_eq_true (by kernel_rfl)) (by kernel_rfl) (by kernel_rfl))
theorem types_pos : ∃ m, Tryz.prog.types.size = m + 1 := Nat.exists_eq_succ_of_ne_zero (fun e => by
  have : (Tryz.prog.types.size == 0) = false := by kernel_rfl
  rw [e] at this
  cases this)
theorem int_key (d : Nat) {n : Int} (h : i64 n) : Tryz.prog.keyLits (d + 1) 3 [.int .i64 n] = some [.int .i64 n] := by
  unfold Program.keyLits
  rw [Tryz.underlying3]
  simp [wf_i64 h]
theorem pt_key (p : Pnt) (hx : i64 p.x) (hy : i64 p.y) : keyOf Tryz.prog 27 p.val = some (.string (keyBytes [.int .i64 p.x, .int .i64 p.y])) := by
  have hkt : Tryz.prog.keyType 27 = true := by kernel_rfl
  have hc : Tryz.prog.cellsOf 27 = 2 := by kernel_rfl
  have hi : Tryz.prog.cellsOf 3 = 1 := by kernel_rfl
  obtain ⟨m, hm⟩ := types_pos
  unfold keyOf
  simp only [Tryz.underlying27]
  rw [if_pos (by simp [hkt, Value.formed, Tryz.underlying27, hc]), hm]
  obtain ⟨m', rfl⟩ : ∃ m', m = m' + 1 := Nat.exists_eq_succ_of_ne_zero (fun e => by
    have : (Tryz.prog.types.size == 1) = false := by kernel_rfl
    rw [hm, e] at this
    cases this)
  unfold Program.keyLits
  simp only [Tryz.underlying27, Value.cells]
  rw [if_pos (by rw [hc]; exact ⟨rfl, by kernel_rfl⟩)]
  have e1 := int_key (m' + 1) hx
  have e2 := int_key (m' + 1) hy
  simp [hi, e1, e2]
theorem sd_key (a b : Int) (hx : i64 a) (hy : i64 b) : keyOf Tryz.prog 150 (.agg #[.int .i64 a, .int .i64 b]) = some (.string (keyBytes [.int .i64 a, .int .i64 b])) :=
  keyOf_pair (e := 3) ⟨Tryz.underlying150, by kernel_rfl, by kernel_rfl, by kernel_rfl⟩ Tryz.underlying3 types_pos (wf_i64 hx) (wf_i64 hy)
/-- an element that reads as a bool is that bool -/
theorem plainBool_inv {e : TypeId} (he : Tryz.prog.underlying e = some .bool) {v : Value} {z : DataW Unit × List MemPlace} (h : plainElem Tryz.prog e v = some z) : ∃ b, v = .bool b ∧ z = (.lit (.bool b), []) := by
  unfold plainElem at h
  rw [he] at h
  cases v <;> simp at h
  exact ⟨_, rfl, h.symm⟩
abbrev MapB (W : World) (k b n : Nat) (D : DataW Unit) : Prop := W.ownsMap Tryz.prog k (plainElem (H := Unit) Tryz.prog 4) b n D
theorem zero_bool (W : World) : (zeroValue 4).run Tryz.prog W = .ok (.bool false) W := Tryz.zeroValue4 W
theorem MapB.look {W : World} {k t b n : Nat} {D : DataW Unit} (h : MapB W k b n D) (K : Maps.Keyed Tryz.prog k) (ht : Tryz.prog.underlying t = some (.map k 4)) {key : Value} {kl : Lit} (hkey : keyOf Tryz.prog k key = some kl) :
    ∃ c : Bool, (Instr.lookup t (.map (some b)) key false).run Tryz.prog W = .ok (.bool c) W ∧ D.atKey kl (.lit (.bool false)) = .lit (.bool c) := by
  obtain ⟨v, ps, hrun, hv⟩ := World.ownsMap.lookup h K ht (zero_bool W) (Go.plainElem_bool Tryz.underlying4 false) hkey
  obtain ⟨c, rfl, hc⟩ := plainBool_inv Tryz.underlying4 hv
  simp only [Prod.mk.injEq] at hc
  exact ⟨c, hrun, hc.1⟩
/-- the map says yes at just these keys -/
def Says (D : DataW Unit) (key : Lit → Prop) : Prop := Maps.IsMap D ∧ ∀ l, WideAt.IsKeyLit l → ∃ c : Bool, D.atKey l (.lit (.bool false)) = .lit (.bool c) ∧ (c = true ↔ key l)
theorem Says.empty : Says (.map []) (fun _ => False) := ⟨⟨[], rfl⟩, fun l _ => ⟨false, rfl, by simp⟩⟩
theorem Says.put {D : DataW Unit} {key : Lit → Prop} (h : Says D key) {k : Lit} (hk : WideAt.IsKeyLit k) : Says (D.put k (.lit (.bool true))) (fun l => l = k ∨ key l) := by
  refine ⟨h.1.put k _, fun l hl => ?_⟩
  by_cases e : l = k
  · subst e
    exact ⟨true, Maps.atKey_put_same h.1 hl _ _, by simp⟩
  · obtain ⟨c, h1, h2⟩ := h.2 l hl
    exact ⟨c, (Maps.atKey_put_other e _ _).trans h1, by simp [e, h2]⟩
theorem MapB.says {W : World} {k t b n : Nat} {D : DataW Unit} {key : Lit → Prop} (h : MapB W k b n D) (K : Maps.Keyed Tryz.prog k) (ht : Tryz.prog.underlying t = some (.map k 4)) (hs : Says D key) {kv : Value} {kl : Lit} (hkey : keyOf Tryz.prog k kv = some kl) :
    ∃ c : Bool, (Instr.lookup t (.map (some b)) kv false).run Tryz.prog W = .ok (.bool c) W ∧ (c = true ↔ key kl) := by
  obtain ⟨c, h1, h2⟩ := h.look K ht hkey
  obtain ⟨c', h3, h4⟩ := hs.2 kl (K.key hkey)
  rw [h3] at h2
  injection h2 with h2
  injection h2 with h2
  subst h2
  exact ⟨c', h1, h4⟩
end Go.Proofs.YtbmocghfpcfmhaaGreatDoor

namespace Go.Proofs.YtbmocghfpcfmhaaGreatDoor
open Go.RowKit

def idxP (p : Int → Bool) (l : List Int) : Int := match l.findIdx? p with | some i => (i : Int) | none => -1
theorem idxP_no {p : Int → Bool} {l : List Int} (h : ∀ i (hi : i < l.length), p l[i] = false) : idxP p l = -1 := by
  have : l.findIdx? p = none := by
    rw [List.findIdx?_eq_none_iff]
    intro x hx
    obtain ⟨i, hi, rfl⟩ := List.mem_iff_getElem.1 hx
    exact h i hi
  simp [idxP, this]
theorem idxP_yes {p : Int → Bool} {l : List Int} {k : Nat} (hk : k < l.length) (h : ∀ i (hi : i < l.length), i < k → p l[i] = false) (hy : p l[k] = true) : idxP p l = k := by
  have : l.findIdx? p = some k := by
    rw [List.findIdx?_eq_some_iff_getElem]
    exact ⟨hk, hy, fun j hj => by rw [h j (by omega) hj]; simp⟩
  simp [idxP, this]
theorem any_idx (p : Int → Bool) (l : List Int) : l.any p = decide (0 ≤ idxP p l) := by
  unfold idxP
  cases h : l.findIdx? p with
  | none =>
    rw [List.findIdx?_eq_none_iff] at h
    rw [Bool.eq_iff_iff]
    simp only [List.any_eq_true, decide_eq_true_eq]
    constructor
    · rintro ⟨x, hx, hp⟩
      rw [h x hx] at hp
      cases hp
    · intro h'
      omega
  | some i =>
    rw [List.findIdx?_eq_some_iff_getElem] at h
    obtain ⟨hi, hp, _⟩ := h
    rw [Bool.eq_iff_iff]
    simp only [List.any_eq_true, decide_eq_true_eq]
    exact ⟨fun _ => by omega, fun _ => ⟨l[i], List.getElem_mem hi, hp⟩⟩

set_option maxHeartbeats 1000000 in
theorem idxfI_any (f : Nat) (p : Int → Bool) (hf : ∀ (d : Int) (w : World), Calls Tryz.prog f #[.int .i64 d] w fun e w' => e = .returned (.bool (p d)) ∧ w = w') (hc : ∀ (d : Int) (w : World), (callFunc f #[.int .i64 d]).run Tryz.prog w = .ok (.enter f #[.int .i64 d]) w) (l : List Int) (A : Option Addr) (cap : Nat) (w : World) (hl : IntSl w A l) :
    Calls Tryz.prog 133 #[.slice A l.length cap, .func (.func f) #[] #[]] w fun e w' => e = .returned (.int .i64 (idxP p l)) ∧ w = w' := by
  have hlen : l.length ≤ 9223372036854775807 := by have := hl.1.1; omega
  have H := hide hl
  have F := hide hf
  clear hl hf
  go_enter Tryz.func133, Tryz.ntmps133
  go_wp2
  go_loop [8] (fun v8 => ∃ k : Nat, k ≤ l.length ∧ v8 = .int .i64 k ∧ Hid (∀ i (hi : i < l.length), i < k → p l[i] = false)) (fun v8 => l.length - (intOf v8).toNat)
  case atStart => exact ⟨0, Nat.zero_le _, rfl, hide (fun _ _ h => by omega)⟩
  case round =>
    obtain ⟨k, hk, rfl, hno⟩ := hrel
    by_cases hlt : k < l.length
    · obtain ⟨b, off, rfl, hbl, hat⟩ := H.out.2 (by omega)
      have c0 := hat k hlt
      clear hat
      rcases Bool.eq_false_or_eq_true (p l[k]) with hs | hs
      · go_wp2_with fail
        refine (F.out l[k] _).mono ?_
        rintro e w' ⟨rfl, rfl⟩
        go_wp2
        go_ret
        exact ⟨ret_int (idxP_yes hlt (fun i hi hik => hno.out i hi hik) hs).symm, rfl⟩
      · go_wp2_with fail
        refine (F.out l[k] _).mono ?_
        rintro e w' ⟨rfl, rfl⟩
        go_wp2
        go_round
        case rel =>
          refine ⟨k + 1, by omega, by go_num, hide fun i hi hik => ?_⟩
          by_cases e : i = k
          · subst e; exact hs
          · exact hno.out i hi (by omega)
        case measure => simp [intOf]; omega
    · go_wp2
      go_ret
      exact ⟨ret_int (idxP_no fun i hi => hno.out i hi (by omega)).symm, rfl⟩
set_option maxHeartbeats 1000000 in
theorem contI_any (f : Nat) (p : Int → Bool) (hf : ∀ (d : Int) (w : World), Calls Tryz.prog f #[.int .i64 d] w fun e w' => e = .returned (.bool (p d)) ∧ w = w') (hc : ∀ (d : Int) (w : World), (callFunc f #[.int .i64 d]).run Tryz.prog w = .ok (.enter f #[.int .i64 d]) w) (l : List Int) (A : Option Addr) (cap : Nat) (w : World) (hl : IntSl w A l) :
    Calls Tryz.prog 97 #[.slice A l.length cap, .func (.func f) #[] #[]] w fun e w' => e = .returned (.bool (l.any p)) ∧ w = w' := by
  have F := hide hf
  have H := hide (any_idx p l)
  clear hf
  have HL := hide hl
  clear hl
  go_enter Tryz.func97, Tryz.ntmps97
  go_wp2_with fail
  refine (idxfI_any f p F.out hc l A cap _ HL.out).mono ?_
  rintro e w' ⟨rfl, rfl⟩
  go_wp2
  go_ret
  exact ⟨ret_bool H.out.symm, rfl⟩
theorem below_drewN {B : Nat} {a w : World} (h : Below B a w) (n : Nat) : Below B a (w.drewN n) := ⟨h.os, h.tape, h.output, h.size, h.block⟩
end Go.Proofs.YtbmocghfpcfmhaaGreatDoor
