/- slices.Equal at classes, where both slices read as the same list: true; nothing that was there is turned. -/
import Derived.Test.YtaaadejamjbcbaaDoorCls
import Derived.Test.YtaaadejamjbcbaaDoorIntFn
namespace Go.Proofs.YtaaadejamjbcbaaDoor
open Go Go.RowKit

set_option maxRecDepth 100000 in
set_option maxHeartbeats 1000000 in
theorem equalC_any (l : List Cls) (A B : Option Addr) (cap cap' : Nat) (w : World) (hl : ClsSl w A l) (hm : ClsSl w B l) :
    Calls Tryd.prog 25 #[.slice A l.length cap, .slice B l.length cap'] w fun e w' => e = .returned (.bool true) ∧ Below w.heap.size w w' := by
  have hlen : l.length ≤ 9223372036854775807 := hl.1.1
  have H := hide hl
  have H' := hide hm
  clear hl hm
  go_enter Tryd.func25, Tryd.ntmps25
  go_wp2
  go_loopw [13] (fun v wr => ∃ k : Nat, k ≤ l.length ∧ v = .int .i64 k ∧ Below w.heap.size w wr) (fun v _ => l.length - (intOf v).toNat)
  case atStart => exact ⟨0, Nat.zero_le _, rfl, Below.refl _ _⟩
  case round =>
    obtain ⟨k, hk, rfl, hb⟩ := hrel
    by_cases hlt : k < l.length
    · obtain ⟨b, off, rfl, hbl, hat⟩ := (H.out.below hb).2 (by omega)
      obtain ⟨b', off', rfl, hbl', hat'⟩ := (H'.out.below hb).2 (by omega)
      obtain ⟨c0, c1, c2, c3, c4⟩ := hat k hlt
      obtain ⟨d0, d1, d2, d3, d4⟩ := hat' k hlt
      have g0 : (0 : Int) ≤ (k : Int) := by omega
      have g1 : (k : Int) < (l.length : Int) := by omega
      clear hat hat'
      generalize l[k] = c at *
      have HB := hide hb
      clear hb
      go_wp2
      go_quiet (fail)
      go_wp2
      go_roundw
      case rel => exact ⟨k + 1, by omega, by go_num, below_drewN HB.out _⟩
      case measure => simp [intOf]; omega
    · have HB := hide hb
      clear hb
      go_wp2
      go_ret
      exact ⟨rfl, HB.out⟩
end Go.Proofs.YtaaadejamjbcbaaDoor
