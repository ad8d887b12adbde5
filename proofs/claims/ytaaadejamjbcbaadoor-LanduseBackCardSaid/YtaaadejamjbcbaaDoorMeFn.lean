/- The program's part (chapter 15): what it returns; it leaves the world as it is but for draws. -/
import Derived.Test.YtaaadejamjbcbaaDoorMeP
import Derived.Test.YtaaadejamjbcbaaDoorOwn2
import Derived.Test.YtaaadejamjbcbaaDoorDiv64A
import Derived.Test.YtaaadejamjbcbaaDoorShelf
namespace Go.Proofs.YtaaadejamjbcbaaDoor
open Go.RowKit

theorem part_parts {T n S : Nat} (hT : T ≤ 1152921504606846976) (hn : n ≤ S) (h0 : 0 < S) :
    T * n / 18446744073709551616 < S ∧ T * n % 18446744073709551616 < 18446744073709551616 ∧ (T * n / 18446744073709551616 * 18446744073709551616 + T * n % 18446744073709551616) / S = T * n / S ∧ T * n / S ≤ T := by
  have hm : T * n ≤ 1152921504606846976 * S := Nat.mul_le_mul hT hn
  have ej : T * n / 18446744073709551616 * 18446744073709551616 + T * n % 18446744073709551616 = T * n := by omega
  have hq : T * n / S ≤ T := Nat.div_le_of_le_mul (by rw [Nat.mul_comm S T]; exact Nat.mul_le_mul_left T hn)
  exact ⟨by omega, Nat.mod_lt _ (by decide), by rw [ej], hq⟩
set_option maxRecDepth 100000 in
set_option maxHeartbeats 1000000 in
theorem lpart_any (T n S : Nat) (w : World) (hT : T ≤ 1152921504606846976) (hn : n ≤ S) (h0 : 0 < S) (hS : S ≤ 1152921504606846976) :
    Calls Tryd.prog 27 #[.int .i64 (T : Int), .int .i64 (n : Int), .int .i64 (S : Int)] w fun e w' => e = .returned (.int .i64 ((T * n / S : Nat) : Int)) ∧ ∃ m, w' = w.drewN m := by
  obtain ⟨f3, f4, f5, f8⟩ := part_parts hT hn h0
  have M64 := fun W => Tryd.bits_Mul64 T n (by omega) (by omega) W
  have D64 := fun W => div64_any (T * n / 18446744073709551616) (T * n % 18446744073709551616) S f3 f4 (by omega) W
  rw [f5] at D64
  have b1 : (T : Int) ≤ 1152921504606846976 := by omega
  have b2 : (n : Int) ≤ 1152921504606846976 := by omega
  have b3 : (S : Int) ≤ 1152921504606846976 := by omega
  generalize hQ : T * n / S = Q at *
  have b4 : (Q : Int) ≤ 1152921504606846976 := by omega
  clear f3 f4 f5 hQ
  generalize T * n / 18446744073709551616 = hi at *
  generalize T * n % 18446744073709551616 = lo at *
  generalize (hi * 18446744073709551616 + lo) % S = rs at *
  go_enter Tryd.func27, Tryd.ntmps27
  go_wp2_with fail
  refine (M64 _).mono ?_
  rintro e w' ⟨rfl, rfl⟩
  go_wp2_with fail
  refine (D64 _).mono ?_
  rintro e w' ⟨rfl, m, rfl⟩
  go_wp2
  go_ret
  exact ⟨rfl, m, rfl⟩
end Go.Proofs.YtaaadejamjbcbaaDoor
