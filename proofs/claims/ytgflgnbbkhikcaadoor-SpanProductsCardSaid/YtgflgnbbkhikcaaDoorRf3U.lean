/- The reference's quotients (sewershedref03): Down, Up, FloorOf, CeilOf at integers: what each returns; nothing that was there is turned (printed by gen_rf3q.py). -/
import Derived.Test.YtgflgnbbkhikcaaDoorRf3Q
import Derived.Deep.RegionWith
namespace Go.Proofs.YtgflgnbbkhikcaaDoor
open Go.RowKit

/-- two words and a sign are an integer -/
def Nm (h l : Nat) (s : Bool) (z : Int) : Prop := Wd h l z.natAbs ∧ s = decide (z < 0)
def NmPost (z : Int) (w : World) (e : Ending) (w' : World) : Prop := (∃ (h l : Nat) (s : Bool), e = .returned (Nd h l s) ∧ Nm h l s z) ∧ Below w.heap.size w w'
theorem ZPost.nm {z : Int} {w : World} {e : Ending} {w' : World} : ZPost z w e w' → NmPost z w e w' := fun ⟨⟨h, l, he, hw⟩, hb⟩ => ⟨⟨h, l, _, he, hw, rfl⟩, hb⟩
theorem n3opp {h l : Nat} {s : Bool} {z : Int} (hn : Nm h l s z) (w : World) : Calls Tryd.prog 66 #[Nd h l s] w (NmPost (-z) w) := by
  obtain ⟨hw, rfl⟩ := hn
  exact (r3opp_any h l z w hw).mono fun _ _ h => h.nm
theorem n3isint {h l : Nat} {s : Bool} {z : Int} (hn : Nm h l s z) (w : World) : Calls Tryd.prog 68 #[Nd h l s] w (ZIntPost z w) := by
  obtain ⟨hw, rfl⟩ := hn
  exact r3isint_any h l z w hw
theorem n3down {h l h' l' : Nat} {s s' : Bool} {x y : Int} (hx : Nm h l s x) (hy : Nm h' l' s' y) (h0 : y ≠ 0) (w : World) : Calls Tryd.prog 44 #[Nd h l s, Nd h' l' s'] w (NmPost (fdv x y) w) := by
  obtain ⟨hx, e1⟩ := hx
  obtain ⟨hy, e2⟩ := hy
  cases s <;> cases s'
  · exact (r3down_ff h l h' l' x y w hx hy h0 e1.symm e2.symm).mono fun _ _ h => h.nm
  · exact (r3down_ft h l h' l' x y w hx hy h0 e1.symm e2.symm).mono fun _ _ h => h.nm
  · exact (r3down_tf h l h' l' x y w hx hy h0 e1.symm e2.symm).mono fun _ _ h => h.nm
  · exact (r3down_tt h l h' l' x y w hx hy h0 e1.symm e2.symm).mono fun _ _ h => h.nm
theorem n3ofint (n : Int) (w : World) (hn : -9223372036854775808 ≤ n ∧ n ≤ 9223372036854775807) : Calls Tryd.prog 42 #[.int .i64 n] w (NmPost n w) := (r3ofint_any n w hn).mono fun _ _ h => h.nm
theorem n3times (a b : Int) (w : World) (ha : -9223372036854775808 ≤ a ∧ a ≤ 9223372036854775807) (hb : -9223372036854775808 ≤ b ∧ b ≤ 9223372036854775807) :
    Calls Tryd.prog 43 #[.int .i64 a, .int .i64 b] w (NmPost (a * b) w) := (r3times_any a b w ha hb).mono fun _ _ h => h.nm
set_option maxRecDepth 100000 in
set_option maxHeartbeats 4000000 in
theorem n3up {h l h' l' : Nat} {s s' : Bool} {x y : Int} (hx : Nm h l s x) (hy : Nm h' l' s' y) (h0 : y ≠ 0) (w : World) : Calls Tryd.prog 45 #[Nd h l s, Nd h' l' s'] w (NmPost (cdv x y) w) := by
  have X := (((Own.start w).alloc #[.int .u64 (h : Int), .int .u64 (l : Int), .bool s] 59).alloc #[.int .u64 (h' : Int), .int .u64 (l' : Int), .bool s'] 59).alloc #[.int .u64 0, .int .u64 0, .bool false] 59
  simp only [World.size_alloc] at X
  have O1 := hide (fun W => n3opp hx W)
  have HY := hide hy
  have H0 := hide h0
  have V := hide (show cdv x y = -fdv (-x) y from rfl)
  have hr := X.r3
  clear hx hy h0
  generalize -x = x' at *
  have HX := hide X
  clear X
  go_enter Tryd.func45, Tryd.ntmps45
  go_wp2
  go_region_with (first
    | (go_at_call 66; ((with_reducible refine (O1.out _).mono ?_); rintro e w1 ⟨⟨ah, al, sa, rfl, ha⟩, hb⟩); have D1 := hide (fun W => n3down ha HY.out H0.out W); (first | (replace HX := hide (HX.out.to hb)) | (replace HX := hide (HX.out.drew.to hb)) | (replace HX := hide (HX.out.drew.drew.to hb))); have hr := HX.out.r3; clear hb ha)
    | (go_at_call 44; ((with_reducible refine (D1.out _).mono ?_); rintro e w2 ⟨⟨qh, ql, qs, rfl, hq⟩, hb⟩); have O2 := hide (fun W => n3opp hq W); (first | (replace HX := hide (HX.out.to hb)) | (replace HX := hide (HX.out.drew.to hb)) | (replace HX := hide (HX.out.drew.drew.to hb))); have hr := HX.out.r3; clear hb hq)
    | (go_at_call 66; ((with_reducible refine (O2.out _).mono ?_); rintro e w3 ⟨⟨rh, rl, rs, rfl, hn⟩, hb⟩); have HN := hide hn; (first | (replace HX := hide (HX.out.to hb)) | (replace HX := hide (HX.out.drew.to hb)) | (replace HX := hide (HX.out.drew.drew.to hb))); have hr := HX.out.r3; clear hb hn))
  all_goals go_wp2
  all_goals exact bodyPost_ret (v := Nd rh rl rs) (by simp [results, Tryd.results45, hr, go_sem]) rfl ⟨⟨rh, rl, rs, rfl, by rw [V.out]; exact HN.out⟩, by have HX := HX.out.1; have hz := HX.size; go_grown⟩
end Go.Proofs.YtgflgnbbkhikcaaDoor
