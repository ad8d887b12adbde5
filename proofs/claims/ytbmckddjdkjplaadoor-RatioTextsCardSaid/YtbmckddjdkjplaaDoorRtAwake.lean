/- The examples of the chapter: awake returns true where the table of powers of ten is as laid; nothing that was there is turned. -/
import Derived.Test.YtbmckddjdkjplaaDoorRtCmp
import Derived.Test.YtbmckddjdkjplaaDoorRtShare
import Derived.Test.YtbmckddjdkjplaaDoorIntEq
import Derived.Test.YtbmckddjdkjplaaDoorShelf3
import Derived.Test.YtbmckddjdkjplaaDoorCardKit
import Derived.Test.YtbmckddjdkjplaaDoorOwn4
import Derived.Lib.AppendIntMem
import Derived.Stop.LaidErr
namespace Go.Proofs.YtbmckddjdkjplaaDoor
open Go Go.RowKit

/-- the table of powers of ten is as laid -/
def PowTab (w : World) : Prop := Lib.TabIs Tryd.prog w "internal/strconv.uint64pow10" .u64 Lib.pow10Tab
theorem PowTab.below {w w' : World} (h : PowTab w) (hb : Below w.heap.size w w') : PowTab w' := by
  unfold PowTab Lib.TabIs World.var? at *
  cases hg : (Tryd.prog).globalNamed "internal/strconv.uint64pow10" with
  | none => simp [hg] at h
  | some g =>
    simp only [hg, Option.bind_some] at h ⊢
    have hlt : g < w.heap.size := by
      rcases Nat.lt_or_ge g w.heap.size with h' | h'
      · exact h'
      · rw [Array.getElem?_eq_none h'] at h; simp at h
    rw [hb.block g hlt]
    exact h
theorem pow_of_laid {w : World} (h : laidMetH Tryd.prog Rows.ratioMakesRow.laid w) : PowTab w := by
  rw [MakeChecks.laidMetH_plain _ _ _ (by kernel_rfl)] at h
  exact Lib.tabIs_of_head (g := 5) (t := 119) (e := 39) (n := 20) (rest := []) (by kernel_rfl) (by kernel_rfl) Tryd.underlying119 Tryd.underlying39 (by kernel_rfl) (by kernel_rfl) (laidMet.tail (laidMet.tail h))
theorem itoa_any (n : Int) (w : World) (h0 : -9223372036854775808 ≤ n) (h1 : n ≤ 9223372036854775807) (ht : PowTab w) : Calls Tryd.prog 60 #[.int .i64 n] w (RetB (.string ⟨(Lib.itoa n).toArray⟩) w) :=
  (Tryd.strconv_Itoa n h0 h1 w ht).mono fun e w' ⟨he, k, os, hw⟩ => ⟨he, by rw [hw]; exact Lib.below_grow _ _ (Nat.le_refl _) _ _⟩
theorem IntSl.of_own {w W : World} {b : Nat} {t : TypeId} {c0 : Array Value} {L : List (Nat × TypeId × Array Value)} (h : Own w W ((b, t, c0) :: L)) (l : List Int) (e : c0 = (l.map (Value.int .i64)).toArray)
    (hl : l.length ≤ 9223372036854775807 ∧ ∀ i (h : i < l.length), -9223372036854775808 ≤ l[i] ∧ l[i] ≤ 9223372036854775807) : IntSl W (some ⟨b, 0, none⟩) l :=
  ⟨hl, fun _ => ⟨b, 0, rfl, h.r1.2.2, fun i hi => by rw [h.r1.1 (0 + i), e]; simp [hi]⟩⟩
theorem small3 (x y z : Int) (hx : -100 ≤ x ∧ x ≤ 100) (hy : -100 ≤ y ∧ y ≤ 100) (hz : -100 ≤ z ∧ z ≤ 100) : [x, y, z].length ≤ 9223372036854775807 ∧ ∀ i (h : i < [x, y, z].length), -9223372036854775808 ≤ [x, y, z][i] ∧ [x, y, z][i] ≤ 9223372036854775807 := by
  refine ⟨by simp, fun i h => ?_⟩
  match i, h with
  | 0, _ => simp; omega
  | 1, _ => simp; omega
  | 2, _ => simp; omega
theorem ex_make (w : World) : Calls Tryd.prog 14 #[.int .i64 6, .int .i64 (-4)] w (RetFE ⟨-3, 2⟩ 0 w) := by
  have h := make_any 6 (-4) w (by omega) (by omega) (by omega) (by omega)
  rw [show mkE 6 (-4) = 0 by decide +kernel, show mkF 6 (-4) = ⟨-3, 2⟩ by decide +kernel] at h
  exact h
theorem ex_floor (w : World) : Calls Tryd.prog 22 #[.agg #[.int .i64 (-3), .int .i64 2]] w (RetIE (-2) 0 w) := by
  have h := floor_any ⟨-3, 2⟩ w
  rw [show ifV ⟨-3, 2⟩ (flF ⟨-3, 2⟩) 0 = -2 by decide +kernel, show ifV ⟨-3, 2⟩ 0 1 = 0 by decide +kernel] at h
  exact h
theorem ex_ceil (w : World) : Calls Tryd.prog 23 #[.agg #[.int .i64 (-3), .int .i64 2]] w (RetIE (-1) 0 w) := by
  have h := ceil_any ⟨-3, 2⟩ w
  rw [show ifV ⟨-3, 2⟩ (ceF ⟨-3, 2⟩) 0 = -1 by decide +kernel, show ifV ⟨-3, 2⟩ 0 1 = 0 by decide +kernel] at h
  exact h
set_option maxHeartbeats 1000000 in
theorem ex_text (w : World) (ht : PowTab w) : Calls Tryd.prog 41 #[.agg #[.int .i64 (-3), .int .i64 2]] w fun e w' => e = .returned (.tuple #[.string ⟨#[45, 51, 47, 50]⟩, .int .i64 0]) ∧ Below w.heap.size w w' := by
  have X := (Own.start w).alloc #[.int .i64 (-3), .int .i64 2] 24
  have hv : vF ⟨-3, 2⟩ = true := by decide +kernel
  have V := rvalid_any ⟨-3, 2⟩
  rw [hv] at V
  have I1 := hide (fun W hW => itoa_any (-3) W (by omega) (by omega) hW)
  have I2 := hide (fun W hW => itoa_any 2 W (by omega) (by omega) hW)
  rw [show (⟨(Lib.itoa (-3)).toArray⟩ : ByteArray) = ⟨#[45, 51]⟩ by decide +kernel] at I1
  rw [show (⟨(Lib.itoa 2).toArray⟩ : ByteArray) = ⟨#[50]⟩ by decide +kernel] at I2
  have HT := hide ht
  have HV := hide V
  clear V hv ht
  go_enter Tryd.func41, Tryd.ntmps41
  go_wp2_with fail
  refine (HV.out _).mono ?_
  rintro e w1 ⟨rfl, hb⟩
  replace X := X.to hb
  clear hb
  have hr := X.r1
  go_wp2_with fail
  refine (I1.out _ (HT.out.below X.1)).mono ?_
  rintro e w1 ⟨rfl, hb⟩
  replace X := X.to hb
  clear hb hr
  have hr := X.r1
  go_wp2_with fail
  refine (I2.out _ (HT.out.below X.1)).mono ?_
  rintro e w1 ⟨rfl, hb⟩
  replace X := X.to hb
  clear hb hr
  go_wp2
  go_ret2
  exact ⟨rfl, X.1⟩
def ShareEx (m : List Int) (w : World) (e : Ending) (w' : World) : Prop := Below w.heap.size w w' ∧ ∃ (A : Option Addr) (cap : Nat), e = .returned (.tuple #[.slice A 3 cap, .int .i64 0]) ∧ IntSl w' A m
theorem ex_share (t : Int) (l m : List Int) (A : Option Addr) (w : World) (hl : IntSl w A l) (h3 : l.length = 3) (e1 : shL t l = m) (e2 : shE t l = 0) (h4 : m.length = 3) :
    Calls Tryd.prog 18 #[.int .i64 t, .slice A 3 3] w (ShareEx m w) := by
  have h := share_any t l A 3 w hl
  rw [h3] at h
  refine h.mono fun e w' ⟨hb, A', cap, he, hs, _⟩ => ⟨hb, A', cap, ?_, ?_⟩
  · rw [he, e1, h4, e2]
  · rw [← e1]; exact hs
set_option maxRecDepth 100000 in
set_option maxHeartbeats 4000000 in
theorem awake_any (w : World) (ht : PowTab w) : Calls Tryd.prog 13 #[] w (RetB (.bool true) w) := by
  have X := Own.start w
  have HT := hide ht
  have S1 := hide (fun A W hl => ex_share 10 [1, 1, 1] [3, 3, 4] A W hl rfl (by decide +kernel) (by decide +kernel) rfl)
  have S2 := hide (fun A W hl => ex_share 7 [0, 5, 2] [0, 5, 2] A W hl rfl (by decide +kernel) (by decide +kernel) rfl)
  have q1 : eqB [3, 3, 4] [3, 3, 4] = true := by decide
  have q2 : eqB [0, 5, 2] [0, 5, 2] = true := by decide
  have E1 := hide (fun A B cap cap' W h h' => equalI_any [3, 3, 4] [3, 3, 4] A B cap cap' W h h')
  have E2 := hide (fun A B cap cap' W h h' => equalI_any [0, 5, 2] [0, 5, 2] A B cap cap' W h h')
  rw [q1] at E1
  rw [q2] at E2
  clear ht q1 q2
  go_enter Tryd.func13, Tryd.ntmps13
  go_wp2_with fail
  refine (ex_make _).mono ?_
  rintro e w1 ⟨rfl, hb⟩
  replace X := (X.to hb).alloc #[.int .i64 (-3), .int .i64 2] 24
  clear hb
  have hr := X.r1
  go_wp2_with fail
  refine (ex_floor _).mono ?_
  rintro e w2 ⟨rfl, hb⟩
  replace X := X.to hb
  clear hb hr
  have hr := X.r1
  go_wp2_with fail
  refine (ex_ceil _).mono ?_
  rintro e w2 ⟨rfl, hb⟩
  replace X := X.to hb
  clear hb hr
  have hr := X.r1
  go_wp2_with fail
  refine (ex_text _ (HT.out.below X.1)).mono ?_
  rintro e w2 ⟨rfl, hb⟩
  replace X := X.to hb
  clear hb hr
  replace X := X.alloc #[.int .i64 1, .int .i64 1, .int .i64 1] 3
  have hr := X.r2
  go_wp2_with fail
  refine (S1.out _ _ (IntSl.of_own X [1, 1, 1] rfl (small3 _ _ _ (by omega) (by omega) (by omega)))).mono ?_
  rintro e w2 ⟨hb, A1, cp1, rfl, hs1⟩
  replace X := (X.to hb).alloc #[.int .i64 0, .int .i64 5, .int .i64 2] 3
  replace hs1 := hide (hs1.below ((Below.refl _ _).alloc (Nat.le_refl _) (.cells #[.int .i64 0, .int .i64 5, .int .i64 2] 3)))
  clear hb hr
  have hr := X.r3
  go_wp2_with fail
  refine (S2.out _ _ (IntSl.of_own X [0, 5, 2] rfl (small3 _ _ _ (by omega) (by omega) (by omega)))).mono ?_
  rintro e w2 ⟨hb, A2, cp2, rfl, hs2⟩
  replace X := X.to hb
  replace hs1 := hide (hs1.out.below hb)
  replace hs2 := hide hs2
  clear hb hr
  have hr := X.r3
  go_wp2_with fail
  replace X := X.alloc #[.int .i64 3, .int .i64 3, .int .i64 4] 3
  replace hs2 := hide (hs2.out.below ((Below.refl _ _).alloc (Nat.le_refl _) (.cells #[.int .i64 3, .int .i64 3, .int .i64 4] 3)))
  refine (E1.out _ _ _ _ _ (hs1.out.below ((Below.refl _ _).alloc (Nat.le_refl _) (.cells #[.int .i64 3, .int .i64 3, .int .i64 4] 3))) (IntSl.of_own X [3, 3, 4] rfl (small3 _ _ _ (by omega) (by omega) (by omega)))).mono ?_
  rintro e w2 ⟨rfl, hb⟩
  replace X := X.to hb
  replace hs2 := hide (hs2.out.below hb)
  clear hb hr
  have hr := X.r4
  go_wp2_with fail
  replace X := X.alloc #[.int .i64 0, .int .i64 5, .int .i64 2] 3
  refine (E2.out _ _ _ _ _ (hs2.out.below ((Below.refl _ _).alloc (Nat.le_refl _) (.cells #[.int .i64 0, .int .i64 5, .int .i64 2] 3))) (IntSl.of_own X [0, 5, 2] rfl (small3 _ _ _ (by omega) (by omega) (by omega)))).mono ?_
  rintro e w2 ⟨rfl, hb⟩
  replace X := X.to hb
  clear hb hr
  go_wp2
  go_ret
  exact ⟨rfl, X.1⟩
end Go.Proofs.YtbmckddjdkjplaaDoor
