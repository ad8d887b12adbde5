/- RatioMakes: Make and Valid return what the reference says: for all numbers the law returns true. -/
import Derived.Test.YtbmckddjdkjplaaDoorRtAwake
import Derived.Test.YtbmckddjdkjplaaDoorRtRef2
namespace Go.Proofs.YtbmckddjdkjplaaDoor
open Go Go.RowKit

set_option maxRecDepth 100000 in
set_option maxHeartbeats 4000000 in
theorem makes_law (n d : Int) (w : World) (hn : -9223372036854775808 ≤ n ∧ n ≤ 9223372036854775807) (hd : -9223372036854775808 ≤ d ∧ d ≤ 9223372036854775807) (ht : PowTab w) :
    Calls Tryd.prog 3 #[.int .i64 n, .int .i64 d] w (RetB (.bool true) w) := by
    have X := Own.start w
    have HT := hide ht
    have A0 := awake_any
    have A1 := fun W => make_any n d W hn.1 hn.2 hd.1 hd.2
    have A2 := fun W => rmake_any n d W hn.1 hn.2 hd.1 hd.2
    have A3 := rvalid_any ⟨n, d⟩
    have A4 := refv_any ⟨n, d⟩
    have A5 := rvalid_any (mkF n d)
    have hv : vF (mkF n d) = (mkE n d == 0) := by rw [vF_mk]; rfl
    rw [hv] at A5
    generalize vF ⟨n, d⟩ = vg at *
    clear hv ht hn hd
    generalize mkF n d = p at *
    generalize mkE n d = er at *
    have A0 := hide A0
    go_enter Tryd.func3, Tryd.ntmps3
    go_wp2_with fail
    refine (A0.out _ HT.out).mono ?_
    rintro e w1 ⟨rfl, hb⟩
    replace X := X.to hb
    clear hb
    go_wp2_with fail
    refine (A1 _).mono ?_
    rintro e w2 ⟨rfl, hb⟩
    replace X := (X.to hb).alloc #[.int .i64 p.num, .int .i64 p.den] 24
    clear hb
    have hr := X.r1
    go_wp2_with fail
    refine (A2 _).mono ?_
    rintro e w3 ⟨rfl, hb⟩
    replace X := (X.to hb).alloc #[.int .i64 p.num, .int .i64 p.den] 24
    clear hb hr
    have hr := X.r2
    replace X := X.alloc #[.int .i64 n, .int .i64 d] 24
    have hr := X.r3
    go_wp2_with fail
    simp only [World.size_alloc] at X hr
    generalize w2.heap.size = g1 at *
    generalize w3.heap.size = g2 at *
    generalize (w3.alloc (.cells #[.int .i64 p.num, .int .i64 p.den] 24)).alloc (.cells #[.int .i64 n, .int .i64 d] 24) = W at *
    have HX := hide X
    clear X
    go_region_held3 (fun w' => w'.cell? ⟨g1, 0, none⟩ = some (.int .i64 p.num) ∧ w'.cell? ⟨g1, 1, none⟩ = some (.int .i64 p.den) ∧ w'.cell? ⟨g2, 0, none⟩ = some (.int .i64 p.num) ∧ w'.cell? ⟨g2, 1, none⟩ = some (.int .i64 p.den) ∧ w'.cell? ⟨g2 + 1, 0, none⟩ = some (.int .i64 n) ∧ w'.cell? ⟨g2 + 1, 1, none⟩ = some (.int .i64 d)) (go_keep)
      (first | (go_at_call 16; ((with_reducible refine (A3 _).mono ?_); rintro e w' ⟨rfl, hb1⟩); have hk1 := keeps hb1) | (go_at_call 17; ((with_reducible refine (A4 _).mono ?_); rintro e w' ⟨rfl, hb2⟩); have hk2 := keeps hb2) | (go_at_call 16; ((with_reducible refine (A5 _).mono ?_); rintro e w' ⟨rfl, hb3⟩); have hk3 := keeps hb3))
    have X := ((HX.out.drew.to hb1).to hb2).to hb3
    go_wp2
    go_ret
    exact ⟨rfl, X.1⟩
end Go.Proofs.YtbmckddjdkjplaaDoor
