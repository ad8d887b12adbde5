/- RatioShares: Share returns what the reference says: for all totals and weights the law returns true. -/
import Derived.Test.YtbmckddjdkjplaaDoorRtAwake
import Derived.Test.YtbmckddjdkjplaaDoorRtRefShare
namespace Go.Proofs.YtbmckddjdkjplaaDoor
open Go Go.RowKit

theorem eqB_self (l : List Int) : eqB l l = true := by simp [eqB]
def ShareM (m : List Int) (er : Int) (w : World) (e : Ending) (w' : World) : Prop := Below w.heap.size w w' ∧ ∃ (A : Option Addr) (cap : Nat), e = .returned (.tuple #[.slice A m.length cap, .int .i64 er]) ∧ IntSl w' A m
theorem SharePost.m {t : Int} {l : List Int} {w w' : World} {e : Ending} (h : SharePost t l w e w') : ShareM (shL t l) (shE t l) w e w' := ⟨h.1, by obtain ⟨A, c, h1, h2, _⟩ := h.2; exact ⟨A, c, h1, h2⟩⟩
set_option maxRecDepth 100000 in
set_option maxHeartbeats 1000000 in
theorem shares_law (t : Int) (l : List Int) (A : Option Addr) (cap : Nat) (w : World) (hl : IntSl w A l) (ht : PowTab w) :
    Calls Tryd.prog 4 #[.int .i64 t, .slice A l.length cap] w (RetB (.bool true) w) := by
  have X := Own.start w
  have HT := hide ht
  have HL := hide hl
  have hlen : l.length ≤ 9223372036854775807 := hl.1.1
  clear ht hl
  have D : (decide ((200 : Int) < (l.length : Int)) = true ∧ decide ((l.length : Int) ≤ 10000) = true) ∨ (decide ((200 : Int) < (l.length : Int)) = true ∧ decide ((l.length : Int) ≤ 10000) = false ∧ decide ((10010 : Int) < (l.length : Int)) = true) ∨
      (decide ((200 : Int) < (l.length : Int)) = true ∧ decide ((l.length : Int) ≤ 10000) = false ∧ decide ((10010 : Int) < (l.length : Int)) = false) ∨ (decide ((200 : Int) < (l.length : Int)) = false ∧ decide ((10010 : Int) < (l.length : Int)) = false) := by
    simp only [decide_eq_true_eq, decide_eq_false_iff_not]
    omega
  have A1 := fun W h => (share_any t l A cap W h).mono fun _ _ => SharePost.m
  have A2 := fun W h => (rshare_any t l A cap W h).mono fun _ _ => SharePost.m
  have A3 := fun B C cap cap' W h h' => equalI_any (shL t l) (shL t l) B C cap cap' W h h'
  rw [eqB_self] at A3
  rcases D with ⟨c1, c2⟩ | ⟨c1, c2, c3⟩ | D
  · go_enter Tryd.func4, Tryd.ntmps4
    go_wp2_with fail
    refine (awake_any _ HT.out).mono ?_
    rintro e w1 ⟨rfl, hb⟩
    replace X := X.to hb
    go_wp2
    go_ret
    exact ⟨rfl, X.1⟩
  · go_enter Tryd.func4, Tryd.ntmps4
    go_wp2_with fail
    refine (awake_any _ HT.out).mono ?_
    rintro e w1 ⟨rfl, hb⟩
    replace X := X.to hb
    go_wp2
    go_ret
    exact ⟨rfl, X.1⟩
  · generalize shL t l = m at *
    generalize shE t l = er at *
    have A1 := hide A1
    have A2 := hide A2
    have A3 := hide A3
    rcases D with ⟨c1, c2, c3⟩ | ⟨c1, c3⟩
    all_goals
      go_enter Tryd.func4, Tryd.ntmps4
      go_wp2_with fail
      refine (awake_any _ HT.out).mono ?_
      rintro e w1 ⟨rfl, hb⟩
      replace X := X.to hb
      clear hb
      go_wp2_with fail
      refine (A1.out _ (HL.out.below X.1)).mono ?_
      rintro e w2 ⟨hb, B1, cp1, rfl, hs1⟩
      replace X := X.to hb
      clear hb
      go_wp2_with fail
      refine (A2.out _ (HL.out.below X.1)).mono ?_
      rintro e w3 ⟨hb, B2, cp2, rfl, hs2⟩
      replace X := X.to hb
      replace hs1 := hide (hs1.below hb)
      replace hs2 := hide hs2
      clear hb
      go_wp2_with fail
      refine (A3.out _ _ _ _ _ hs1.out hs2.out).mono ?_
      rintro e w4 ⟨rfl, hb⟩
      replace X := X.to hb
      clear hb
      go_wp2
      go_ret
      exact ⟨rfl, X.1⟩
end Go.Proofs.YtbmckddjdkjplaaDoor
