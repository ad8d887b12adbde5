/- The program's losses: ValidStore, rain, drain, step: what each returns, for every class and store in range; nothing that was there is turned but the store that is handed over by its address. -/
import Derived.Test.YtljaibbmceknfaaCls
import Derived.Test.YtljaibbmceknfaaLossPlain
import Derived.Deep.QuietTactic
import Derived.BigQuiet
import Derived.StillTailTactics
namespace Go.Proofs.Ytljaibbmceknfaa
open Go.RowKit

set_option maxHeartbeats 400000 in
theorem within_any (n m : Int) (w : World) :
    Calls Try.prog 36 #[.int .i64 n, .int .i64 m] w fun e w' => e = .returned (.bool (inB n m)) ∧ w = w' := by
  by_cases h1 : 0 ≤ n <;> by_cases h2 : n ≤ m
  all_goals
    go_enter Try.func36, Try.ntmps36
    go_wp2
    go_ret
    refine ⟨ret_bool ?_, rfl⟩
    simp [inB, h1, h2]
def lenB (t : Int) : Bool := decide (1 ≤ t ∧ t ≤ 86400)
set_option maxHeartbeats 400000 in
theorem length_any (n : Int) (w : World) :
    Calls Try.prog 37 #[.int .i64 n] w fun e w' => e = .returned (.bool (lenB n)) ∧ w = w' := by
  by_cases h1 : 1 ≤ n <;> by_cases h2 : n ≤ 86400
  all_goals
    go_enter Try.func37, Try.ntmps37
    go_wp2
    go_ret
    refine ⟨ret_bool ?_, rfl⟩
    simp [lenB, h1, h2]
def ceilI (n m : Int) : Int := (n + m - 1) / m
set_option maxHeartbeats 400000 in
theorem ceil_any (n m : Int) (w : World) (hn : 0 ≤ n) (hn' : n ≤ 1000000000000000) (hm : 0 < m) (hm' : m ≤ 1000000000000000) :
    Calls Try.prog 53 #[.int .i64 n, .int .i64 m] w fun e w' => e = .returned (.int .i64 (ceilI n m)) ∧ w = w' := by
  go_enter Try.func53, Try.ntmps53
  go_wp2
  go_ret
  exact ⟨ret_int rfl, rfl⟩

/-- the class is in range, its number of the store too: laid apart as inequalities -/
theorem RightP.cut {c : Cls} (h : RightP c) : (0 ≤ c.se ∧ c.se ≤ 1000) ∧ (0 ≤ c.we ∧ c.we ≤ 100000) ∧ (0 ≤ c.ro ∧ c.ro ≤ 1000000) ∧ 0 ≤ c.dr ∧ c.dr ≤ 1000 := by
  unfold RightP at h; omega

def RainPost (c : Cls) (s : Sto) (d : Int) (b : Nat) (w : World) (e : Ending) (w' : World) : Prop :=
  ∃ x y r, e = .returned (.int .i64 r) ∧ x = s.wt + wetBy c s d ∧ y = s.he + heldBy c s d ∧ r = runoff c s d ∧
    Below w.heap.size ((w.setCell ⟨b, 0, none⟩ (.int .i64 x)).setCell ⟨b, 1, none⟩ (.int .i64 y)) w'
theorem RainPost.mk {c : Cls} {s : Sto} {d : Int} {b : Nat} {w w' : World} {x y r : Int} (hb : Below w.heap.size ((w.setCell ⟨b, 0, none⟩ (.int .i64 x)).setCell ⟨b, 1, none⟩ (.int .i64 y)) w')
    (hx : x = s.wt + wetBy c s d) (hy : y = s.he + heldBy c s d) (hr : r = runoff c s d) : RainPost c s d b w (.returned (.int .i64 r)) w' := ⟨x, y, r, rfl, hx, hy, hr, hb⟩
theorem wrap_run {a b k : Int} (ha : 0 ≤ a) (ha' : a ≤ 4194304) (hb : 0 ≤ b) (hb' : b ≤ 4194304) (hk : 0 ≤ k) (hk' : k ≤ 1000) : wrap64 (wrap64 (a * k) + wrap64 (b * (1000 - k))) = a * k + b * (1000 - k) := by
  have h1 : 0 ≤ a * k := Int.mul_nonneg ha hk
  have h2 : a * k ≤ 4194304 * 1000 := Int.mul_le_mul ha' hk' hk (by omega)
  have h3 : 0 ≤ b * (1000 - k) := Int.mul_nonneg hb (by omega)
  have h4 : b * (1000 - k) ≤ 4194304 * 1000 := Int.mul_le_mul hb' (by omega) (by omega) (by omega)
  rw [IntWalk.wrap64_in (a * k) (by omega), IntWalk.wrap64_in (b * (1000 - k)) (by omega), IntWalk.wrap64_in _ (by omega)]
set_option maxHeartbeats 1000000 in
theorem rain_any (c : Cls) (s : Sto) (d : Int) (b : Nat) (w : World) (hr : RightP c) (h : HoldsP c s) (hd : 0 ≤ d) (hd' : d ≤ 4194304) (hb : b < w.heap.size)
    (c0 : w.cell? ⟨b, 0, none⟩ = some (.int .i64 s.wt)) (c1 : w.cell? ⟨b, 1, none⟩ = some (.int .i64 s.he)) (f0 : w.frozen? ⟨b, 0, none⟩ = false) (f1 : w.frozen? ⟨b, 1, none⟩ = false) :
    Calls Try.prog 49 #[c.val, .pointer (some ⟨b, 0, none⟩), .int .i64 d] w (RainPost c s d b w) := by
  obtain ⟨⟨r1, r2⟩, ⟨r3, r4⟩, ⟨r5, r6⟩, r7, r8⟩ := hr.cut
  have h' := h
  obtain ⟨p1, p2, p3, p4⟩ := h'
  clear hr h
  go_enter Try.func49, Try.ntmps49
  go_wp2
  go_region
  all_goals go_wp2
  all_goals go_region
  all_goals go_wp2
  all_goals go_ret
  all_goals refine RainPost.mk (((Below.refl _ _).alloc (by simp) _).drew).drew ?_ ?_ ?_
  all_goals simp only [runoff, heldBy, wetBy]
  all_goals first | omega | skip
  · rw [show min d (c.we - s.wt) = c.we - s.wt by omega, show min (d - (c.we - s.wt)) (c.ro - s.he) = c.ro - s.he by omega]
    exact wrap_run (by omega) (by omega) (by omega) (by omega) r1 r2
  · rw [show min d (c.we - s.wt) = c.we - s.wt by omega, show min (d - (c.we - s.wt)) (c.ro - s.he) = d - (c.we - s.wt) by omega]
    have := wrap_run (a := d - (c.we - s.wt)) (b := 0) (k := c.se) (by omega) (by omega) (by omega) (by omega) r1 r2
    rw [show d - (c.we - s.wt) - (d - (c.we - s.wt)) = 0 by omega]
    simpa using this
  · rw [show min d (c.we - s.wt) = d by omega, show min (d - d) (c.ro - s.he) = 0 by omega]
    simp

theorem still_of {P : Program} {f : FuncId} {args : Array Value} {w : World} {v : Value} (h : Calls P f args w fun e w' => e = .returned v ∧ w = w') :
    Calls P f args w fun e w' => e = .returned v ∧ w' = w := h.mono fun _ _ ⟨he, hw⟩ => ⟨he, hw.symm⟩
theorem ceilI_bd {n m : Int} (hn : 0 ≤ n) (hm : 0 < m) : 0 ≤ ceilI n m := Int.ediv_nonneg (by omega) (by omega)
def DrainPost (c : Cls) (x y t : Int) (b : Nat) (w : World) (e : Ending) (w' : World) : Prop :=
  ∃ x' y', e = .returned (.tuple #[]) ∧ x' = lessI x (c.we * t) 86400 ∧ y' = lessI y (y * c.dr * t) 3600000 ∧
    Below w.heap.size ((w.setCell ⟨b, 1, none⟩ (.int .i64 y')).setCell ⟨b, 0, none⟩ (.int .i64 x')) w'
def DrainWet (c : Cls) (y t : Int) (b : Nat) (w : World) (e : Ending) (w' : World) : Prop :=
  ∃ y', e = .returned (.tuple #[]) ∧ y' = lessI y (y * c.dr * t) 3600000 ∧ Below w.heap.size (w.setCell ⟨b, 1, none⟩ (.int .i64 y')) w'
theorem DrainPost.mk {c : Cls} {x y t : Int} {b : Nat} {w w' : World} {x' y' : Int} (hb : Below w.heap.size ((w.setCell ⟨b, 1, none⟩ (.int .i64 y')).setCell ⟨b, 0, none⟩ (.int .i64 x')) w')
    (hx : x' = lessI x (c.we * t) 86400) (hy : y' = lessI y (y * c.dr * t) 3600000) : DrainPost c x y t b w (.returned (.tuple #[])) w' := ⟨x', y', rfl, hx, hy, hb⟩
theorem DrainWet.mk {c : Cls} {y t : Int} {b : Nat} {w w' : World} {y' : Int} (hb : Below w.heap.size (w.setCell ⟨b, 1, none⟩ (.int .i64 y')) w')
    (hy : y' = lessI y (y * c.dr * t) 3600000) : DrainWet c y t b w (.returned (.tuple #[])) w' := ⟨y', rfl, hy, hb⟩
set_option maxHeartbeats 1000000 in
theorem drain_dry (c : Cls) (x y t : Int) (b : Nat) (w : World) (hr : RightP c) (hx : 0 ≤ x) (hx' : x ≤ c.we) (hy : 0 ≤ y) (hy' : y ≤ c.ro) (ht : 0 ≤ t) (ht' : t ≤ 86400) (hb : b < w.heap.size)
    (c0 : w.cell? ⟨b, 0, none⟩ = some (.int .i64 x)) (c1 : w.cell? ⟨b, 1, none⟩ = some (.int .i64 y)) (f0 : w.frozen? ⟨b, 0, none⟩ = false) (f1 : w.frozen? ⟨b, 1, none⟩ = false) :
    Calls Try.prog 43 #[c.val, .pointer (some ⟨b, 0, none⟩), .int .i64 t, .bool true] w (DrainPost c x y t b w) := by
  obtain ⟨⟨r1, r2⟩, ⟨r3, r4⟩, ⟨r5, r6⟩, r7, r8⟩ := hr.cut
  clear hr
  obtain ⟨m1, m2, m3, m4⟩ := mul3_bd (a := y) (b := c.dr) (t := t) hy (by omega) r7 r8 ht ht'
  have m5 : 0 ≤ c.we * t := Int.mul_nonneg r3 ht
  have m6 : c.we * t ≤ 100000 * 86400 := Int.mul_le_mul r4 ht' ht (by omega)
  have k0 := ceilI_bd (n := y * c.dr * t) (m := 3600000) m3 (by omega)
  have k1 : ceilI (y * c.dr * t) 3600000 ≤ 1000000000000000 := by unfold ceilI; omega
  have k2 := ceilI_bd (n := c.we * t) (m := 86400) m5 (by omega)
  have k3 : ceilI (c.we * t) 86400 ≤ 1000000000000000 := by unfold ceilI; omega
  have z1 := IntWalk.i64_in (y * c.dr) (by omega)
  have z2 := IntWalk.i64_in (y * c.dr * t) (by omega)
  have z3 := IntWalk.i64_in (y - ceilI (y * c.dr * t) 3600000) (by omega)
  have z4 := IntWalk.i64_in (c.we * t) (by omega)
  have z5 := IntWalk.i64_in (x - ceilI (c.we * t) 86400) (by omega)
  have q : (y ≤ ceilI (y * c.dr * t) 3600000 ∨ ceilI (y * c.dr * t) 3600000 < y) := by omega
  have q' : (x ≤ ceilI (c.we * t) 86400 ∨ ceilI (c.we * t) 86400 < x) := by omega
  rcases q with q1 | q1 <;> rcases q' with q2 | q2
  all_goals
    go_enter Try.func43, Try.ntmps43
    go_wp2
    refine wp_region_still_tail 19 (by kernel_rfl) (by kernel_rfl) ?_
    simp only [List.take_succ_cons, List.take_zero, List.drop_succ_cons, List.drop_zero]
    change wpStill _ _ (World.drew (w.alloc _)) _ _ _
    repeat still_step
    still_call (still_of (ceil_any _ _ _ m3 (by omega) (by omega) (by omega)))
    repeat still_step
    refine wpStill_nil ?_
    change wpList _ _ _ _ _ (World.drew (w.alloc _))
    go_wp2
    refine wp_region_still_tail 14 (by kernel_rfl) (by kernel_rfl) ?_
    simp only [List.take_succ_cons, List.take_zero, List.drop_succ_cons, List.drop_zero]
    change wpStill _ _ (World.drew (World.drew (World.alloc _ _))) _ _ _
    repeat still_step
    still_call (still_of (ceil_any _ _ _ m5 (by omega) (by omega) (by omega)))
    repeat still_step
    refine wpStill_nil ?_
    change wpList _ _ _ _ _ (World.drew (World.drew (World.alloc _ _)))
    go_wp2
    go_end0
    refine DrainPost.mk (((Below.refl _ _).alloc (by simp) _).drew).drew ?_ ?_
    all_goals simp only [lessI]
    all_goals unfold ceilI at *
    all_goals omega
set_option maxHeartbeats 1000000 in
theorem drain_wet (c : Cls) (y t : Int) (b : Nat) (w : World) (hr : RightP c) (hy : 0 ≤ y) (hy' : y ≤ c.ro) (ht : 0 ≤ t) (ht' : t ≤ 86400) (hb : b < w.heap.size)
    (c1 : w.cell? ⟨b, 1, none⟩ = some (.int .i64 y)) (f1 : w.frozen? ⟨b, 1, none⟩ = false) :
    Calls Try.prog 43 #[c.val, .pointer (some ⟨b, 0, none⟩), .int .i64 t, .bool false] w (DrainWet c y t b w) := by
  obtain ⟨⟨r1, r2⟩, ⟨r3, r4⟩, ⟨r5, r6⟩, r7, r8⟩ := hr.cut
  clear hr
  obtain ⟨m1, m2, m3, m4⟩ := mul3_bd (a := y) (b := c.dr) (t := t) hy (by omega) r7 r8 ht ht'
  have k0 := ceilI_bd (n := y * c.dr * t) (m := 3600000) m3 (by omega)
  have k1 : ceilI (y * c.dr * t) 3600000 ≤ 1000000000000000 := by unfold ceilI; omega
  have z1 := IntWalk.i64_in (y * c.dr) (by omega)
  have z2 := IntWalk.i64_in (y * c.dr * t) (by omega)
  have z3 := IntWalk.i64_in (y - ceilI (y * c.dr * t) 3600000) (by omega)
  have q : (y ≤ ceilI (y * c.dr * t) 3600000 ∨ ceilI (y * c.dr * t) 3600000 < y) := by omega
  rcases q with q1 | q1
  all_goals
    go_enter Try.func43, Try.ntmps43
    go_wp2
    refine wp_region_still_tail 19 (by kernel_rfl) (by kernel_rfl) ?_
    simp only [List.take_succ_cons, List.take_zero, List.drop_succ_cons, List.drop_zero]
    change wpStill _ _ (World.drew (w.alloc _)) _ _ _
    repeat still_step
    still_call (still_of (ceil_any _ _ _ m3 (by omega) (by omega) (by omega)))
    repeat still_step
    refine wpStill_nil ?_
    change wpList _ _ _ _ _ (World.drew (w.alloc _))
    go_wp2
    go_end0
    refine DrainWet.mk (((Below.refl _ _).alloc (by simp) _).drew) ?_
    simp only [lessI]
    unfold ceilI at *
    omega
end Go.Proofs.Ytljaibbmceknfaa
