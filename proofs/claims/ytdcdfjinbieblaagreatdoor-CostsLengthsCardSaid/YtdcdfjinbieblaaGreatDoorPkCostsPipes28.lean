/- Parts of one proof, joined: slices.Equal at one list of items. The law CostsPipes returns true for every network, catalogue, cost, rate and years; nothing that was there is turned. (Printed by gen_pil.py.). -/
import Derived.Test.YtdcdfjinbieblaaGreatDoorPkCostsPipes14
import Derived.Test.YtdcdfjinbieblaaGreatDoorPkCostsPipes15
import Derived.Test.YtdcdfjinbieblaaGreatDoorPkCostsPipes18
import Derived.Test.YtdcdfjinbieblaaGreatDoorPkCostsPipes22
import Derived.Test.YtdcdfjinbieblaaGreatDoorPkCostsPipes25
import Derived.Test.YtdcdfjinbieblaaGreatDoorPkCostsPipes27
import Derived.Stop.LaidErr
namespace Go.Proofs.YtdcdfjinbieblaaGreatDoor
open Go Go.RowKit

set_option maxRecDepth 100000 in
set_option maxHeartbeats 1000000 in
theorem equalM_any (l : List Itm) (A B : Option Addr) (cap cap' : Nat) (w : World) (hl : ItmSl w A l) (hm : ItmSl w B l) :
    Calls Tryz.prog 11 #[.slice A l.length cap, .slice B l.length cap'] w fun e w' => e = .returned (.bool true) ∧ Below w.heap.size w w' := by
  have hlen : l.length ≤ 9223372036854775807 := by have := hl.1.1; unfold maxLen at this; omega
  have H := hide hl
  have H' := hide hm
  clear hl hm
  go_enter Tryz.func11, Tryz.ntmps11
  go_wp2
  go_loopw [13] (fun v wr => ∃ k : Nat, k ≤ l.length ∧ v = .int .i64 k ∧ Below w.heap.size w wr) (fun v _ => l.length - (intOf v).toNat)
  case atStart => exact ⟨0, Nat.zero_le _, rfl, Below.refl _ _⟩
  case round =>
    obtain ⟨k, hk, rfl, hb⟩ := hrel
    by_cases hlt : k < l.length
    · obtain ⟨b, off, rfl, hbl, hat⟩ := (H.out.below hb).2 (by omega)
      obtain ⟨b', off', rfl, hbl', hat'⟩ := (H'.out.below hb).2 (by omega)
      obtain ⟨c0, c1, c2⟩ := hat k hlt
      obtain ⟨d0, d1, d2⟩ := hat' k hlt
      have g0 : (0 : Int) ≤ (k : Int) := by omega
      have g1 : (k : Int) < (l.length : Int) := by omega
      clear hat hat'
      generalize l[k] = c at *
      have HB := hide hb
      clear hb
      go_wp2
      go_quiet (fail)
      go_wp2
      go_roundw
      case rel => exact ⟨k + 1, by omega, by go_num, below_drewN HB.out _⟩
      case measure => simp [intOf]; omega
    · have HB := hide hb
      clear hb
      go_wp2
      go_ret
      exact ⟨rfl, HB.out⟩
end Go.Proofs.YtdcdfjinbieblaaGreatDoor

namespace Go.Proofs.YtdcdfjinbieblaaGreatDoor
open Go Go.RowKit

theorem copipes_any (nl : List Nod) (A : Option Addr) (cA : Nat) (ll : List Lnk) (B : Option Addr) (cB : Nat) (sl : List Sec) (C : Option Addr) (cC : Nat) (w : World) (h : NodSl w A nl ∧ LnkSl w B ll) (hs : SecSl w C sl) :
    Calls Tryz.prog 7 #[.agg #[.slice A nl.length cA, .slice B ll.length cB], .slice C sl.length cC] w (BilPost (piL nl ll sl) (piE nl ll sl) w) := by
  cases hv : (vNet nl ll && vCat sl) with
  | false => exact copipes_no nl A cA ll B cB sl C cC w h hs hv
  | true => exact copipes_ok nl A cA ll B cB sl C cC w h hs hv
theorem rpipes_any (nl : List Nod) (A : Option Addr) (cA : Nat) (ll : List Lnk) (B : Option Addr) (cB : Nat) (sl : List Sec) (C : Option Addr) (cC : Nat) (w : World) (h : NodSl w A nl ∧ LnkSl w B ll) (hs : SecSl w C sl) :
    Calls Tryz.prog 8 #[.agg #[.slice A nl.length cA, .slice B ll.length cB], .slice C sl.length cC] w (BilPost (piL nl ll sl) (piE nl ll sl) w) := by
  cases hv : (vNet nl ll && vCat sl) with
  | false => exact rpipes_no nl A cA ll B cB sl C cC w h hs hv
  | true => exact rpipes_ok nl A cA ll B cB sl C cC w h hs hv
set_option maxRecDepth 100000 in
set_option maxHeartbeats 4000000 in
theorem pipes_raw (nl : List Nod) (A : Option Addr) (cA : Nat) (ll : List Lnk) (B : Option Addr) (cB : Nat) (sl : List Sec) (C : Option Addr) (cC : Nat) (cost num den years : Int) (w : World) (h : NodSl w A nl ∧ LnkSl w B ll) (hs : SecSl w C sl) (ht : Lib.TabIs Tryz.prog w "internal/strconv.uint64pow10" .u64 Lib.pow10Tab) :
    Calls Tryz.prog 3 #[.agg #[.slice A nl.length cA, .slice B ll.length cB], .slice C sl.length cC, .int .i64 cost, .int .i64 num, .int .i64 den, .int .i64 years] w (RetW (.bool true) w) := by
  have AW := hide (fun W h => awake48_any W h)
  have HV := hide (fun W (hb : Below w.heap.size w W) => heavy_raw nl A cA ll B cB sl C cC W ⟨h.1.below hb, h.2.below hb⟩ (hs.below hb))
  have P1 := hide (fun W (hb : Below w.heap.size w W) => copipes_any nl A cA ll B cB sl C cC W ⟨h.1.below hb, h.2.below hb⟩ (hs.below hb))
  have P2 := hide (fun W (hb : Below w.heap.size w W) => rpipes_any nl A cA ll B cB sl C cC W ⟨h.1.below hb, h.2.below hb⟩ (hs.below hb))
  have R1 := hide (fun W => copresent_any cost num den years W)
  have R2 := hide (fun W => rpresent_any cost num den years W)
  have EQ := hide (fun A B c c' W h h' => equalM_any (piL nl ll sl) A B c c' W h h')
  unfold RetW at AW R1 R2
  unfold SomeB at HV
  unfold BilPost at P1 P2
  have VS : Hid ((prS cost num den years).val = .agg #[.int .i64 (prS cost num den years).lo, .int .i64 (prS cost num den years).hi]) := hide rfl
  rw [VS.out] at R1 R2
  have HT := hide ht
  clear h hs ht VS
  generalize piL nl ll sl = L at *
  generalize piE nl ll sl = E at *
  generalize (prS cost num den years).lo = lo at *
  generalize (prS cost num den years).hi = hi at *
  generalize prE cost num den years = er at *
  have x1 : (E == E) = true := by simp
  have x2 : (lo == lo) = true := by simp
  have x3 : (hi == hi) = true := by simp
  have x4 : (er == er) = true := by simp
  have X0 := (Own.start w).alloc #[.slice A nl.length cA, .slice B ll.length cB] 25
  have hr := X0.r1
  have X := hide X0
  have HT1 := hide (tab_below HT.out X0.1)
  clear X0 HT
  go_enter Tryz.func3, Tryz.ntmps3
  go_wp2_with fail
  refine (AW.out _ HT1.out).mono ?_
  rintro e w1 ⟨rfl, hb⟩
  replace X := hide (X.out.to hb)
  clear hb hr
  have hr := X.out.r1
  go_wp2_with fail
  refine (HV.out _ X.out.1).mono ?_
  rintro e w2 ⟨b, rfl, hb⟩
  replace X := hide (X.out.to hb)
  clear hb hr
  have hr := X.out.r1
  cases b with
  | true =>
    go_wp2
    go_ret
    exact ⟨rfl, X.out.1⟩
  | false =>
    go_wp2_with fail
    refine (P1.out _ X.out.1).mono ?_
    rintro e w3 ⟨hb, A1, c1, rfl, S1⟩
    replace S1 := hide S1
    replace X := hide (X.out.to hb)
    clear hb hr
    have hr := X.out.r1
    have X3 := hide (Own.start w3)
    go_wp2_with fail
    refine (P2.out _ X.out.1).mono ?_
    rintro e w4 ⟨hb, A2, c2, rfl, S2⟩
    replace S2 := hide S2
    replace S1 := hide (S1.out.below hb)
    replace X := hide (X.out.to hb)
    clear hb hr
    have hr := X.out.r1
    go_wp2_with fail
    refine (R1.out _).mono ?_
    rintro e w5 ⟨rfl, hb⟩
    replace S1 := hide ((S1.out.below hb).below ((Below.refl w5.heap.size w5).alloc (Nat.le_refl _) (.cells #[.int .i64 lo, .int .i64 hi] 36)))
    replace S2 := hide ((S2.out.below hb).below ((Below.refl w5.heap.size w5).alloc (Nat.le_refl _) (.cells #[.int .i64 lo, .int .i64 hi] 36)))
    replace X := hide ((X.out.to hb).alloc #[.int .i64 lo, .int .i64 hi] 36)
    clear hb hr X3
    have hr := X.out.r2
    go_wp2_with fail
    refine (R2.out _).mono ?_
    rintro e w6 ⟨rfl, hb⟩
    replace S1 := hide ((S1.out.below hb).below ((Below.refl w6.heap.size w6).alloc (Nat.le_refl _) (.cells #[.int .i64 lo, .int .i64 hi] 36)))
    replace S2 := hide ((S2.out.below hb).below ((Below.refl w6.heap.size w6).alloc (Nat.le_refl _) (.cells #[.int .i64 lo, .int .i64 hi] 36)))
    replace X := hide ((X.out.to hb).alloc #[.int .i64 lo, .int .i64 hi] 36)
    clear hb hr
    have hr := X.out.r3
    go_wp2_with fail
    refine (EQ.out _ _ _ _ _ S1.out S2.out).mono ?_
    rintro e w7 ⟨rfl, hb⟩
    replace X := hide (X.out.to hb)
    clear hb hr S1 S2
    have hr := X.out.r3
    go_wp2
    go_ret
    exact ⟨rfl, X.out.1⟩
set_option maxRecDepth 100000 in
theorem pipes_law (n : Net) (sl : List Sec) (C : Option Addr) (cC : Nat) (cost num den years : Int) (w : World) (h : NetSl w n) (hs : SecSl w C sl) (ht : Lib.TabIs Tryz.prog w "internal/strconv.uint64pow10" .u64 Lib.pow10Tab) :
    Calls Tryz.prog 3 #[n.val, .slice C sl.length cC, .int .i64 cost, .int .i64 num, .int .i64 den, .int .i64 years] w (RetW (.bool true) w) :=
  pipes_raw n.nl n.A n.c n.ll n.B n.c' sl C cC cost num den years w h hs ht
end Go.Proofs.YtdcdfjinbieblaaGreatDoor
