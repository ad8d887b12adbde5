/- LanduseMetres: the law returns true for every list; nothing that was there is turned. -/
import Derived.Test.YtaaadejamjbcbaaDoorAwk15
import Derived.Test.YtaaadejamjbcbaaDoorMeRef
namespace Go.Proofs.YtaaadejamjbcbaaDoor
open Go Go.RowKit

set_option maxRecDepth 100000 in
set_option maxHeartbeats 2000000 in
theorem metres_law (l : List Int) (A : Option Addr) (cap : Nat) (w : World) (hl : IntSl w A l) (ht : TxtW w) : Calls Tryd.prog 3 #[.slice A l.length cap] w (RetV (.bool true) w) := by
  have hlen : l.length ≤ 9223372036854775807 := hl.1.1
  have AW := hide (awake_any w ht)
  have HL := hide hl
  have X := Own.start w
  have M := hide (fun W h => metres_any l A cap W h)
  have R := hide (fun W h => rmetres_any l A cap W h)
  clear hl ht
  have ways : (decide ((50 : Int) < (l.length : Int)) = true ∧ decide ((l.length : Int) ≤ 1000) = true) ∨ (decide ((50 : Int) < (l.length : Int)) = true ∧ decide ((l.length : Int) ≤ 1000) = false ∧ decide ((1005 : Int) < (l.length : Int)) = true) ∨
      (decide ((50 : Int) < (l.length : Int)) = true ∧ decide ((l.length : Int) ≤ 1000) = false ∧ decide ((1005 : Int) < (l.length : Int)) = false) ∨ (decide ((50 : Int) < (l.length : Int)) = false ∧ decide ((1005 : Int) < (l.length : Int)) = false) := by
    by_cases h1 : (50 : Int) < (l.length : Int) <;> by_cases h2 : (l.length : Int) ≤ 1000 <;> by_cases h3 : (1005 : Int) < (l.length : Int) <;> simp [h1, h2, h3] <;> omega
  rcases ways with ⟨q1, q2⟩ | ⟨q1, q2, q3⟩ | ⟨q1, q2, q3⟩ | ⟨q1, q3⟩
  iterate 2
    · go_enter Tryd.func3, Tryd.ntmps3
      go_wp2_with fail
      refine AW.out.mono ?_
      rintro e w1 ⟨rfl, hb⟩
      go_wp2
      go_ret
      exact ⟨rfl, hb⟩
  all_goals
    go_enter Tryd.func3, Tryd.ntmps3
    go_wp2_with fail
    refine AW.out.mono ?_
    rintro e w1 ⟨rfl, hb⟩
    replace X := X.to hb
    have HL1 := hide (HL.out.below hb)
    clear hb
    go_wp2_with fail
    refine (M.out _ HL1.out).mono ?_
    rintro e w2 ⟨hb, A1, c1, rfl, h1, _⟩
    replace X := X.to hb
    have HL2 := hide (HL1.out.below hb)
    clear hb
    go_wp2_with fail
    refine (R.out _ HL2.out).mono ?_
    rintro e w3 ⟨hb, A2, c2, rfl, h2, _⟩
    replace X := X.to hb
    have EQ := hide (equalI_any (meL l) (meL l) A1 A2 c1 c2 w3 (h1.below hb) h2)
    rw [show eqB (meL l) (meL l) = true from by simp [eqB]] at EQ
    clear hb h1 h2 M R HL HL1 HL2
    generalize meE l = er at *
    generalize meL l = L at *
    go_wp2_with fail
    refine EQ.out.mono ?_
    rintro e w4 ⟨rfl, hb⟩
    replace X := X.to hb
    clear hb
    go_wp2
    go_ret
    exact ⟨rfl, X.1⟩
end Go.Proofs.YtaaadejamjbcbaaDoor
