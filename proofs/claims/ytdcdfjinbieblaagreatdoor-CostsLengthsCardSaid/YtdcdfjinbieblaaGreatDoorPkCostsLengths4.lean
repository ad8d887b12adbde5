/- The law CostsLengths returns true for every network, catalogue and number; nothing that was there is turned. (Printed by gen_lnl.py.) -/
import Derived.Test.YtdcdfjinbieblaaGreatDoorPkCostsPipes28
import Derived.Test.YtdcdfjinbieblaaGreatDoorPkCostsLengths1
import Derived.Test.YtdcdfjinbieblaaGreatDoorPkCostsLengths3
import Derived.Deep.RegionHeld3
namespace Go.Proofs.YtdcdfjinbieblaaGreatDoor
open Go Go.RowKit

set_option maxRecDepth 100000 in
set_option maxHeartbeats 4000000 in
theorem lengths_inv (nl : List Nod) (A : Option Addr) (cA : Nat) (ll : List Lnk) (B : Option Addr) (cB : Nat) (sl : List Sec) (C : Option Addr) (cC : Nat) (d : Nat) (w : World) (h : NodSl w A nl ∧ LnkSl w B ll) (hs : SecSl w C sl) (ht : Lib.TabIs Tryz.prog w "internal/strconv.uint64pow10" .u64 Lib.pow10Tab) (hv : (vNet nl ll && vCat sl) = false) : Calls Tryz.prog 4 #[.agg #[.slice A nl.length cA, .slice B ll.length cB], .slice C sl.length cC, .int .u8 (d : Int)] w (RetW (.bool true) w) := by
  have AW := hide (fun W h => awake48_any W h)
  have HV := hide (fun W (hb : Below w.heap.size w W) => heavy_raw nl A cA ll B cB sl C cC W ⟨h.1.below hb, h.2.below hb⟩ (hs.below hb))
  have V1 := hide (fun W (hb : Below w.heap.size w W) => rnvalid_raw nl A cA ll B cB W ⟨h.1.below hb, h.2.below hb⟩)
  have V2 := hide (fun W (hb : Below w.heap.size w W) => rcat_any sl C cC W (hs.below hb))
  have P1 := hide (fun W (hb : Below w.heap.size w W) => copipes_any nl A cA ll B cB sl C cC W ⟨h.1.below hb, h.2.below hb⟩ (hs.below hb))
  unfold RetW at AW V1 V2
  unfold SomeB at HV
  unfold BilPost at P1
  have X0 := (Own.start w).alloc #[.slice A nl.length cA, .slice B ll.length cB] 25
  have hr := X0.r1
  have X := hide X0
  have HT1 := hide (tab_below ht X0.1)
  generalize vNet nl ll = b1 at *
  generalize vCat sl = b2 at *
  have ways : b1 = false ∨ (b1 = true ∧ b2 = false) := by cases b1 <;> cases b2 <;> simp at hv ⊢
  clear X0 h hs ht hv P1
  rcases ways with rfl | ⟨rfl, rfl⟩
  ·
    go_enter Tryz.func4, Tryz.ntmps4
    go_wp2_with fail
    refine (AW.out _ HT1.out).mono ?_
    rintro e w1 ⟨rfl, hb⟩
    replace X := hide (X.out.to hb)
    clear hb hr
    have hr := X.out.r1
    go_wp2_with fail
    refine (HV.out _ X.out.1).mono ?_
    rintro e w2 ⟨b, rfl, hb⟩
    replace X := hide (X.out.to hb)
    clear hb hr
    have hr := X.out.r1
    cases b with
    | true =>
      go_wp2
      go_ret
      exact ⟨rfl, X.out.1⟩
    | false =>
      go_wp2_with fail
      refine (V1.out _ X.out.1).mono ?_
      rintro e w3 ⟨rfl, hb⟩
      replace X := hide (X.out.to hb)
      clear hb hr
      have hr := X.out.r1
      go_wp2
      go_ret
      exact ⟨rfl, X.out.1⟩
  ·
    go_enter Tryz.func4, Tryz.ntmps4
    go_wp2_with fail
    refine (AW.out _ HT1.out).mono ?_
    rintro e w1 ⟨rfl, hb⟩
    replace X := hide (X.out.to hb)
    clear hb hr
    have hr := X.out.r1
    go_wp2_with fail
    refine (HV.out _ X.out.1).mono ?_
    rintro e w2 ⟨b, rfl, hb⟩
    replace X := hide (X.out.to hb)
    clear hb hr
    have hr := X.out.r1
    cases b with
    | true =>
      go_wp2
      go_ret
      exact ⟨rfl, X.out.1⟩
    | false =>
      go_wp2_with fail
      refine (V1.out _ X.out.1).mono ?_
      rintro e w3 ⟨rfl, hb⟩
      replace X := hide (X.out.to hb)
      clear hb hr
      have hr := X.out.r1
      go_wp2_with fail
      refine (V2.out _ X.out.1).mono ?_
      rintro e w4 ⟨rfl, hb⟩
      replace X := hide (X.out.to hb)
      clear hb hr
      have hr := X.out.r1
      go_wp2
      go_ret
      exact ⟨rfl, X.out.1⟩
set_option maxRecDepth 100000 in
set_option maxHeartbeats 4000000 in
theorem lengths_bad (nl : List Nod) (A : Option Addr) (cA : Nat) (ll : List Lnk) (B : Option Addr) (cB : Nat) (sl : List Sec) (C : Option Addr) (cC : Nat) (d : Nat) (w : World) (h : NodSl w A nl ∧ LnkSl w B ll) (hs : SecSl w C sl) (ht : Lib.TabIs Tryz.prog w "internal/strconv.uint64pow10" .u64 Lib.pow10Tab) (hv : (vNet nl ll && vCat sl) = true) (hp : pipOK sl ll = false) : Calls Tryz.prog 4 #[.agg #[.slice A nl.length cA, .slice B ll.length cB], .slice C sl.length cC, .int .u8 (d : Int)] w (RetW (.bool true) w) := by
  have AW := hide (fun W h => awake48_any W h)
  have HV := hide (fun W (hb : Below w.heap.size w W) => heavy_raw nl A cA ll B cB sl C cC W ⟨h.1.below hb, h.2.below hb⟩ (hs.below hb))
  have V1 := hide (fun W (hb : Below w.heap.size w W) => rnvalid_raw nl A cA ll B cB W ⟨h.1.below hb, h.2.below hb⟩)
  have V2 := hide (fun W (hb : Below w.heap.size w W) => rcat_any sl C cC W (hs.below hb))
  have P1 := hide (fun W (hb : Below w.heap.size w W) => copipes_any nl A cA ll B cB sl C cC W ⟨h.1.below hb, h.2.below hb⟩ (hs.below hb))
  unfold RetW at AW V1 V2
  unfold SomeB at HV
  unfold BilPost at P1
  have X0 := (Own.start w).alloc #[.slice A nl.length cA, .slice B ll.length cB] 25
  have hr := X0.r1
  have X := hide X0
  have HT1 := hide (tab_below ht X0.1)
  obtain ⟨e1, e2⟩ := pi_bad hv hp
  rw [e1, e2] at P1
  obtain ⟨v1, v2⟩ : vNet nl ll = true ∧ vCat sl = true := by simpa using hv
  rw [v1] at V1
  rw [v2] at V2
  clear X0 h hs ht hv hp e1 e2 v1 v2
  go_enter Tryz.func4, Tryz.ntmps4
  go_wp2_with fail
  refine (AW.out _ HT1.out).mono ?_
  rintro e w1 ⟨rfl, hb⟩
  replace X := hide (X.out.to hb)
  clear hb hr
  have hr := X.out.r1
  go_wp2_with fail
  refine (HV.out _ X.out.1).mono ?_
  rintro e w2 ⟨b, rfl, hb⟩
  replace X := hide (X.out.to hb)
  clear hb hr
  have hr := X.out.r1
  cases b with
  | true =>
    go_wp2
    go_ret
    exact ⟨rfl, X.out.1⟩
  | false =>
    go_wp2_with fail
    refine (V1.out _ X.out.1).mono ?_
    rintro e w3 ⟨rfl, hb⟩
    replace X := hide (X.out.to hb)
    clear hb hr
    have hr := X.out.r1
    go_wp2_with fail
    refine (V2.out _ X.out.1).mono ?_
    rintro e w4 ⟨rfl, hb⟩
    replace X := hide (X.out.to hb)
    clear hb hr
    have hr := X.out.r1
    go_wp2_with fail
    refine (P1.out _ X.out.1).mono ?_
    rintro e w5 ⟨hb, A1, c1, rfl, S1⟩
    replace X := hide (X.out.to hb)
    clear hb hr
    have hr := X.out.r1
    clear S1
    go_wp2
    go_ret
    exact ⟨rfl, X.out.1⟩
theorem pipN_zero {sl : List Sec} {f : Nat → Int} (h : ∀ i, f i = 0) : ∀ n, n ≤ sl.length → pipN sl f n = []
  | 0, _ => rfl
  | n + 1, hn => by rw [pipN_no (show n < sl.length by omega) (by rw [h n]; omega), pipN_zero h n (by omega)]
set_option maxRecDepth 100000 in
set_option maxHeartbeats 8000000 in
theorem lengths_ok (nl : List Nod) (A : Option Addr) (cA : Nat) (ll : List Lnk) (B : Option Addr) (cB : Nat) (sl : List Sec) (C : Option Addr) (cC : Nat) (d : Nat) (w : World) (h : NodSl w A nl ∧ LnkSl w B ll) (hs : SecSl w C sl) (ht : Lib.TabIs Tryz.prog w "internal/strconv.uint64pow10" .u64 Lib.pow10Tab) (hd : d ≤ 255) (hv : (vNet nl ll && vCat sl) = true) (hp : pipOK sl ll = true) : Calls Tryz.prog 4 #[.agg #[.slice A nl.length cA, .slice B ll.length cB], .slice C sl.length cC, .int .u8 (d : Int)] w (RetW (.bool true) w) := by
  have AW := hide (fun W h => awake48_any W h)
  have HV := hide (fun W (hb : Below w.heap.size w W) => heavy_raw nl A cA ll B cB sl C cC W ⟨h.1.below hb, h.2.below hb⟩ (hs.below hb))
  have V1 := hide (fun W (hb : Below w.heap.size w W) => rnvalid_raw nl A cA ll B cB W ⟨h.1.below hb, h.2.below hb⟩)
  have V2 := hide (fun W (hb : Below w.heap.size w W) => rcat_any sl C cC W (hs.below hb))
  have P1 := hide (fun W (hb : Below w.heap.size w W) => copipes_any nl A cA ll B cB sl C cC W ⟨h.1.below hb, h.2.below hb⟩ (hs.below hb))
  unfold RetW at AW V1 V2
  unfold SomeB at HV
  unfold BilPost at P1
  have X0 := (Own.start w).alloc #[.slice A nl.length cA, .slice B ll.length cB] 25
  have hr := X0.r1
  have X := hide X0
  have HT1 := hide (tab_below ht X0.1)
  obtain ⟨e1, e2⟩ := pi_yes hv hp
  rw [e1, e2] at P1
  obtain ⟨v1, v2⟩ : vNet nl ll = true ∧ vCat sl = true := by simpa using hv
  rw [v1] at V1
  rw [v2] at V2
  have LB : ∀ l ∈ ll, l.kd = 1 → 1 ≤ l.le ∧ l.le ≤ 16777216 := fun l hl hk => by
    obtain ⟨m, hm, rfl⟩ := List.mem_iff_getElem.1 hl
    exact lnk_le (lnkOk_at v1 hm).1 hk
  have hfb : ∀ i, 0 ≤ lenA sl ll i ∧ lenA sl ll i ≤ 6710886400 := fun i => by
    have := lenA_bound (sl := sl) v1 ll.length i
    rwa [List.take_length] at this
  obtain ⟨XX, hxl, hxs, hxi⟩ := pip_items (f := lenA sl ll) v2 hfb
  have SUM : sumN (lenA sl ll) sl.length = totA ll := sumN_lenA sl ll (pipOK_at.1 hp)
  have AMS := amS_pipN (sl := sl) (f := lenA sl ll) (fun i => (hfb i).1) sl.length (Nat.le_refl _)
  rw [SUM] at AMS
  have hl400 : ll.length ≤ 400 := by
    have q := v1
    unfold vNet at q
    simp only [Bool.and_eq_true, decide_eq_true_eq] at q
    exact q.1.2
  have hn300 : nl.length ≤ 300 := by
    have q := v1
    unfold vNet at q
    simp only [Bool.and_eq_true, decide_eq_true_eq] at q
    exact q.1.1
  have hs40 : sl.length ≤ 40 := by
    have q := v2
    unfold vCat at q
    simp only [Bool.and_eq_true, decide_eq_true_eq] at q
    exact q.1
  have L40 := pipN_len sl (lenA sl ll) sl.length
  have ITB := pipN_itB (f := lenA sl ll) v2 hfb sl.length (Nat.le_refl _)
  have AMB := hide (fun k => amS_bd (l := pipN sl (lenA sl ll) sl.length) (fun x hx => by
    obtain ⟨i, hi, rfl⟩ := List.mem_iff_getElem.1 hx
    obtain ⟨_, _, _, q1, q2⟩ := hxi i hi (by omega)
    omega) (by omega) k)
  have TB := hide (fun k => totA_bd v1 k)
  have TA := hide (fun k (hk : k < ll.length) => totA_take hk)
  have EMP := hide (fun (h0 : ll.length = 0) => (show pipN sl (lenA sl ll) sl.length = [] by
    have e : ll = [] := List.eq_nil_of_length_eq_zero h0
    exact pipN_zero (fun i => by rw [e]; exact lenA_nil sl i) _ (Nat.le_refl _)))
  have WT := hide (fun (k : Nat) (hk : k < ll.length) W (hb : Below w.heap.size w W) => rwithout_any nl A cA ll B cB k W ⟨h.1.below hb, h.2.below hb⟩ hn300 hl400 (tabs_nod v1) (tabs_lnk v1) hk)
  have PP := hide (fun (ns : List Nod) A' c' (ls : List Lnk) B' c'' W hn hl (hb : Below w.heap.size w W) => copipes_any ns A' c' ls B' c'' sl C cC W (And.intro hn hl) (hs.below hb))
  have LIKE := hide (fun (k : Nat) (hk : k < ll.length) (ns : List Nod) (ls : List Lnk) (q1 : ns.map Nod.er = nl.map Nod.er) (q2 : ls.map Lnk.er = (ll.eraseIdx k).map Lnk.er) => (show piE ns ls sl = 0 ∧ (biE (pipN sl (lenA sl ll) sl.length) = 0 → biE (piL ns ls sl) = 0 ∧ biV (piL ns ls sl) ≤ biV (pipN sl (lenA sl ll) sl.length)) by
    have z1 : vNet ns ls = true := (vNet_like q1 q2).trans (vNet_erase v1 hk)
    have z2 : pipOK sl ls = true := (pipOK_like q2).trans (pipOK_erase hp k)
    have z3 : (vNet ns ls && vCat sl) = true := by rw [z1, v2]; rfl
    obtain ⟨z4, z5⟩ := pi_yes z3 z2
    refine ⟨z4, fun hb => ?_⟩
    rw [z5]
    exact bill_less v2 (fun i => (hfb i).2) (fun i => by
      have q := lenA_erase (sl := sl) LB hk i
      rw [lenA_like q2]; exact q) hb))
  have FD := hide (fun s W (hb : Below w.heap.size w W) => rseFind_any sl C cC s W (hs.below hb))
  have BL := hide (fun (l : List Itm) A c W h => cobill_any l A c W h)
  unfold RetW at FD BL
  unfold NetP at WT
  unfold BilPost at PP
  have HL := hide h.2
  have HS := hide hs
  have hlen1 : ll.length ≤ 9223372036854775807 := by omega
  have hlen2 : sl.length ≤ 9223372036854775807 := by omega
  have XI := hide hxi
  have XS := hide hxs
  have XL := hide hxl
  have AM := hide AMS
  clear X0 h hs ht hv hp e1 e2 v1 v2 LB hfb hxi hxs hxl AMS SUM ITB
  generalize lenA sl ll = f at *
  generalize pipN sl f sl.length = L at *
  go_enter Tryz.func4, Tryz.ntmps4
  go_wp2_with fail
  refine (AW.out _ HT1.out).mono ?_
  rintro e w1 ⟨rfl, hb⟩
  replace X := hide (X.out.to hb)
  clear hb hr
  have hr := X.out.r1
  go_wp2_with fail
  refine (HV.out _ X.out.1).mono ?_
  rintro e w2 ⟨b, rfl, hb⟩
  replace X := hide (X.out.to hb)
  clear hb hr
  have hr := X.out.r1
  cases b with
  | true =>
    go_wp2
    go_ret
    exact ⟨rfl, X.out.1⟩
  | false =>
    go_wp2_with fail
    refine (V1.out _ X.out.1).mono ?_
    rintro e w3 ⟨rfl, hb⟩
    replace X := hide (X.out.to hb)
    clear hb hr
    have hr := X.out.r1
    go_wp2_with fail
    refine (V2.out _ X.out.1).mono ?_
    rintro e w4 ⟨rfl, hb⟩
    replace X := hide (X.out.to hb)
    clear hb hr
    have hr := X.out.r1
    go_wp2_with fail
    refine (P1.out _ X.out.1).mono ?_
    rintro e w5 ⟨hb, A1, c1, rfl, S1⟩
    replace S1 := hide S1
    replace X := hide (X.out.to hb)
    clear hb hr P1 V1 V2 AW HV HT1
    have hr := X.out.r1
    go_wp2
    go_loopw [9, 56] (fun v9 v56 wr => ∃ k : Nat, k ≤ ll.length ∧ v56 = .int .i64 (k : Int) ∧ v9 = .int .i64 (totA (ll.take k)) ∧ Hid (Below w5.heap.size w5 wr)) (fun _ v _ => ll.length - (intOf v).toNat)
    case atStart => exact ⟨0, by omega, rfl, rfl, hide (Below.refl _ _)⟩
    case round =>
      obtain ⟨k, hk, rfl, rfl, HB⟩ := hrel
      by_cases hlt : k < ll.length
      · have d1 : decide (k < ll.length) = true := decide_eq_true hlt
        have d2 : (0 : Int) ≤ (k : Int) := by omega
        have d3 : (k : Int) < (ll.length : Int) := by omega
        obtain ⟨b, off, rfl, hbl, hat⟩ := (HL.out.below (X.out.to HB.out).1).2 (by omega)
        obtain ⟨c0, c1', c2, c3, c4, c5, c6, c7, c8, c9, ca⟩ := hat k hlt
        have TAk := hide (TA.out k hlt)
        have t0 := TB.out k
        have t1 := TB.out (k + 1)
        clear hat TA TB AMB EMP WT PP LIKE FD BL XI XS XL AM
        generalize ll[k] = x at *
        have XB := hide ((Own.start wr).alloc #[.string x.nm, .string x.fr, .string x.tn, .int .i64 x.kd, .int .i64 x.le, .int .i64 x.up, .int .i64 x.dn, .string x.se, .int .i64 x.wi, .int .i64 x.he, .slice x.cu.A x.cu.l.length x.cu.c] 50)
        have hr2 := XB.out.r1
        have HB2 := hide (below_via HB.out HB.out.size XB.out.1)
        by_cases hkd : x.kd = 1
        · have q1 : (x.kd == 1) = true := by simpa using hkd
          rw [if_pos hkd] at TAk
          have q2 : IntKind.i64.wrap (totA (ll.take k) + x.le) = totA (ll.take (k + 1)) := by rw [TAk.out]; exact IntWalk.i64_in _ (by have := TAk.out; omega)
          clear hkd TAk t0 t1
          go_wp2
          go_roundw
          case rel => exact ⟨k + 1, by omega, by go_num, rfl, HB2⟩
          case measure => simp [intOf]; omega
        · have q1 : (x.kd == 1) = false := by simpa using hkd
          rw [if_neg hkd, Int.add_zero] at TAk
          have q2 := TAk.out
          clear hkd t0 t1
          go_wp2
          go_roundw
          case rel => exact ⟨k + 1, by omega, by go_num, by rw [q2], HB2⟩
          case measure => simp [intOf]; omega
      · obtain rfl : k = ll.length := by omega
        have d1 : decide (ll.length < ll.length) = false := decide_eq_false hlt
        have tbl := TB.out ll.length
        rw [List.take_length] at tbl
        rw [List.take_length]
        clear TA TB hlt
        obtain ⟨wa, rfl⟩ : ∃ z, z = wr := ⟨_, rfl⟩
        go_wp2
        go_loopw [10, 13, 70] (fun v10 v13 v70 wr => ∃ k : Nat, k ≤ L.length ∧ v70 = .int .i64 (k : Int) ∧ v13 = .int .i64 (lastX XX k) ∧ v10 = .int .i64 (amS (L.take k)) ∧ Hid (Below w5.heap.size w5 wr)) (fun _ _ v _ => L.length - (intOf v).toNat)
        case atStart => exact ⟨0, by omega, rfl, rfl, rfl, HB⟩
        case round =>
          clear HB
          obtain ⟨k, hk, rfl, rfl, rfl, HB⟩ := hrel
          by_cases hlt : k < L.length
          · have d1' : decide (k < L.length) = true := decide_eq_true hlt
            have d2 : (0 : Int) ≤ (k : Int) := by omega
            have d3 : (k : Int) < (L.length : Int) := by omega
            have hkx : k < XX.length := by have := XL.out; omega
            obtain ⟨hj, s1, s2, s3, s4⟩ := XI.out k hlt hkx
            have lx := lastX_lt XS.out hkx
            have LS := hide (lastX_succ hkx)
            have AS := hide (amS_take hlt)
            have a0 := AMB.out k
            have a1 := AMB.out (k + 1)
            obtain ⟨b, off, rfl, hbl, hat⟩ := (S1.out.below HB.out).2 (by omega)
            obtain ⟨c0, c1', c2⟩ := hat k hlt
            obtain ⟨bs, os, rfl, hbs, hats⟩ := (HS.out.below (X.out.to HB.out).1).2 (by omega)
            have e2 := (hats XX[k] hj).c2
            rw [← s2] at e2
            have FDk := hide (fun W hb => FD.out L[k].nm W hb)
            rw [s1] at FDk
            clear hat hats AMB EMP WT PP LIKE FD BL XI XS XL AM s1 s2
            generalize L[k] = x at *
            generalize XX[k] = j at *
            generalize lastX XX k = lst at *
            have XB := hide ((Own.start wr).alloc #[.string x.nm, .int .i64 x.am, .int .i64 x.pr] 43)
            have hr2 := XB.out.r1
            have XW := hide ((X.out.to HB.out).to XB.out.1)
            go_wp2_with fail
            refine (FDk.out _ XW.out.1).mono ?_
            rintro e w6 ⟨rfl, hb⟩
            have XB2 := hide (XB.out.to hb)
            have e2' := (XB2.out.1.cell (p := ⟨bs, os + j * 5 + 2, none⟩) hbs).trans e2
            have hbs6 : bs < w6.heap.size := Nat.lt_of_lt_of_le hbs XB2.out.1.size
            have HB2 := hide (below_via HB.out HB.out.size XB2.out.1)
            clear hb hr2 XB XW c0 c1' c2 e2 FDk
            have hr2 := XB2.out.r1
            have j1 : (0 : Int) ≤ (j : Int) := by omega
            have j2 : (j : Int) < (sl.length : Int) := by omega
            have g1 : decide ((j : Int) ≤ lst) = false := decide_eq_false (by omega)
            have g2 : (x.pr != x.pr) = false := by simp
            have g3 : decide (x.am < 1) = false := decide_eq_false (by omega)
            have g4 : decide (1073741824 < x.am) = false := decide_eq_false (by omega)
            have q2 : IntKind.i64.wrap (amS (L.take k) + x.am) = amS (L.take (k + 1)) := by rw [AS.out]; exact IntWalk.i64_in _ (by have := AS.out; omega)
            clear a0 a1 AS lx s3 s4
            have NE : Nonempty (OwnW w6 []) := ⟨⟨_, Own.start w6⟩⟩
            have C1 := fun z : OwnW w6 [] => (XB2.out.to z.own.1).r1
            have C2 := fun z : OwnW w6 [] => (z.own.1.cell (p := ⟨bs, os + j * 5 + 2, none⟩) hbs6).trans e2'
            go_upto_region 20 with (fail)
            refine wp_region_own (w := w6) (L := []) (by kernel_rfl) (by kernel_rfl) (Own.start w6) ?_
            repeat (go_big_quiet_step (fail))
            refine wpQuiet_nil ?_
            rintro _ ⟨⟨W, HX⟩, rfl⟩
            have HB3 := hide (below_via HB2.out HB2.out.size HX.1)
            have hr3 := (XB2.out.to HX.1).r1
            clear HX NE C1 C2 hr2 e2' XB2 HB2
            go_wp2
            go_roundw
            case rel => exact ⟨k + 1, by omega, by go_num, by rw [LS.out], rfl, HB3⟩
            case measure => simp [intOf]; omega
          · obtain rfl : k = L.length := by omega
            have d1' : decide (L.length < L.length) = false := decide_eq_false hlt
            rw [List.take_length]
            have a0 := AMB.out L.length
            rw [List.take_length] at a0
            obtain ⟨am1, am2, am3⟩ := AM.out
            have XW := hide (X.out.to HB.out)
            have SW := hide (S1.out.below HB.out)
            have hrw := XW.out.r1
            clear hlt AMB AM XI XS XL FD
            obtain ⟨T, hT⟩ : ∃ T, T = 1000 * amS L := ⟨_, rfl⟩
            obtain ⟨N1, hN1⟩ : ∃ N1, N1 = 1000 * (L.length : Int) := ⟨_, rfl⟩
            obtain ⟨N2, hN2⟩ : ∃ N2, N2 = totA ll + N1 := ⟨_, rfl⟩
            have m1 : IntKind.i64.wrap (1000 * amS L) = T := (IntWalk.i64_in _ (by omega)).trans hT.symm
            have m2 : IntKind.i64.wrap (1000 * (L.length : Int)) = N1 := (IntWalk.i64_in _ (by omega)).trans hN1.symm
            have m3 : IntKind.i64.wrap (totA ll + N1) = N2 := (IntWalk.i64_in _ (by omega)).trans hN2.symm
            have r1 : decide (T < totA ll) = false := decide_eq_false (by omega)
            have hL40 : L.length ≤ 9223372036854775807 := by omega
            have WY : Hid ((L.length = 0 ∧ decide (0 < totA ll) = false) ∨ (L.length ≠ 0 ∧ decide (N2 ≤ T) = false)) := hide (by
              by_cases hz : L.length = 0
              · exact .inl ⟨hz, decide_eq_false (by have := am3 hz; omega)⟩
              · exact .inr ⟨hz, decide_eq_false (by omega)⟩)
            have zl : ((ll.length : Int) == 0) = decide (ll.length = 0) := by rw [Bool.eq_iff_iff]; simp only [beq_iff_eq, decide_eq_true_eq]; omega
            clear am1 am2 am3 hT hN1 hN2 a0 tbl
            generalize hdl : decide (ll.length = 0) = bl at *
            generalize totA ll = SS at *
            generalize amS L = MM at *
            go_upto_region 25 with (fail)
            go_cut [140] (fun v wx => v = .bool bl ∧ Hid (Own w wx [(w.heap.size, 25, #[.slice A nl.length cA, .slice B ll.length cB])]) ∧ Hid (Below w5.heap.size w5 wx))
            case first =>
              rcases WY.out with ⟨y1, y2⟩ | ⟨y1, y2⟩
              · have y3 : L = [] := List.eq_nil_of_length_eq_zero y1
                subst y3
                go_wp2_with fail
                all_goals
                  go_meet
                  exact ⟨by simp, XW, HB⟩
              · have y3 : ((L.length : Int) == 0) = false := by
                  cases e : ((L.length : Int) == 0) with
                  | false => rfl
                  | true => exact absurd (by have := beq_iff_eq.1 e; omega) y1
                have y4 : ¬ L = [] := fun e => y1 (by rw [e]; rfl)
                go_wp2_with fail
                all_goals
                  go_meet
                  exact ⟨by simp, XW, HB⟩
            case rest =>
              obtain ⟨rfl, XW2, HB2⟩ := hcut
              clear XW SW hrw HB WY m1 m2 m3 r1
              have SW := hide (S1.out.below HB2.out)
              have hrw := XW2.out.r1
              cases bl with
              | true =>
                have hz : ll.length = 0 := by simpa using hdl
                have y3 := EMP.out hz
                subst y3
                have zl2 : ((ll.length : Int) == 0) = true := zl
                clear hz hdl WT PP LIKE BL EMP S1 SW
                go_wp2
                go_ret
                exact ⟨rfl, XW2.out.1⟩
              | false =>
                have hz : ¬ ll.length = 0 := by simpa using hdl
                have hk0 : d % ll.length < ll.length := Nat.mod_lt _ (by omega)
                have r1 : (d : Int).tmod (ll.length : Int) = ((d % ll.length : Nat) : Int) := (Int.ofNat_tmod d ll.length).symm
                have k1 : IntKind.i64.wrap (d : Int) = (d : Int) := IntWalk.i64_in _ (by omega)
                have ne1 : ¬ ll = [] := fun e => hz (by rw [e]; rfl)
                generalize d % ll.length = k0 at *
                have k2 : IntKind.i64.wrap (k0 : Int) = (k0 : Int) := IntWalk.i64_in _ (by omega)
                have WTk := hide (fun W hb => WT.out k0 hk0 W hb)
                have LKk := hide (fun ns ls q1 q2 => LIKE.out k0 hk0 ns ls q1 q2)
                clear WT LIKE EMP hdl S1 hk0
                have c0 := (show _ = some (Value.slice A nl.length cA) from hrw.1 0)
                have c1' := (show _ = some (Value.slice B ll.length cB) from hrw.1 1)
                go_upto_region 27 with (fail)
                go_region_held3 (fun w' => w'.cell? ⟨w.heap.size, 0, none⟩ = some (.slice A nl.length cA) ∧ w'.cell? ⟨w.heap.size, 1, none⟩ = some (.slice B ll.length cB)) (go_keep)
                  (first
                    | (go_at_call 15; refine (WTk.out _ XW2.out.drew.1).mono ?_; rintro e w7 ⟨hb, ns, ls, A2, c2, B2, c3, rfl, hn, hl, hcap, em1, em2⟩; have X7 := hide (XW2.out.drew.to hb); have S7 := hide ((SW.out.below ((Below.refl _ _).drew)).below hb); have HN7 := hide hn; have HL7 := hide hl; have EM7 := hide (And.intro em1 em2); have hk := keeps hb; clear hb hn hl em1 em2 hcap)
                    | (go_at_call 7; refine (PP.out ns A2 c2 ls B2 c3 _ HN7.out HL7.out X7.out.1).mono ?_; rintro e w8 ⟨hb, A8, c8, rfl, hS⟩; have X8 := hide (X7.out.to hb); have S8 := hide (S7.out.below hb); have M8 := hide hS; have hk2 := keeps hb; clear hb hS))
                all_goals
                  obtain ⟨z4, z5⟩ := LKk.out ns ls EM7.out.1 EM7.out.2
                  have ZB := hide z5
                  have BL1 := hide (fun W h => BL.out L A1 c1 W h)
                  have BL2 := hide (fun W h => BL.out (piL ns ls sl) A8 c8 W h)
                  clear z5 EM7 HN7 HL7 LKk PP BL WTk hk hk2 X7 S7 SW XW2
                  generalize piE ns ls sl = E2 at *
                  subst z4
                  generalize piL ns ls sl = M at *
                  generalize biE L = be1 at *
                  generalize biV L = bv1 at *
                  generalize biE M = be2 at *
                  generalize biV M = bv2 at *
                  by_cases q : be1 = 0
                  · subst q
                    obtain ⟨y1, y2⟩ := ZB.out rfl
                    subst y1
                    have y3 : decide (bv2 ≤ bv1) = true := decide_eq_true y2
                    clear ZB y2
                    go_wp2_with fail
                    refine (BL1.out _ S8.out).mono ?_
                    rintro e w9 ⟨rfl, hb⟩
                    have X9 := hide (X8.out.to hb)
                    have M9 := hide (M8.out.below hb)
                    clear hb
                    go_wp2_with fail
                    refine (BL2.out _ M9.out).mono ?_
                    rintro e w10 ⟨rfl, hb⟩
                    have X10 := hide (X9.out.to hb)
                    clear hb
                    go_wp2
                    go_ret
                    exact ⟨rfl, X10.out.1⟩
                  · have y3 : (be1 != 0) = true := by simpa using q
                    clear ZB
                    go_wp2_with fail
                    refine (BL1.out _ S8.out).mono ?_
                    rintro e w9 ⟨rfl, hb⟩
                    have X9 := hide (X8.out.to hb)
                    have M9 := hide (M8.out.below hb)
                    clear hb
                    go_wp2_with fail
                    refine (BL2.out _ M9.out).mono ?_
                    rintro e w10 ⟨rfl, hb⟩
                    have X10 := hide (X9.out.to hb)
                    clear hb
                    go_wp2
                    go_ret
                    exact ⟨rfl, X10.out.1⟩
theorem u8W48 {x : Int} (h : (Lit.int .u8 x).wf = true) : 0 ≤ x ∧ x ≤ 255 := by
  simpa [Lit.wf, IntKind.min, IntKind.max, IntKind.signed, IntKind.bits] using h
set_option maxRecDepth 100000 in
theorem lengths_law (n : Net) (sl : List Sec) (C : Option Addr) (cC : Nat) (m : Int) (w : World) (h : NetSl w n) (hs : SecSl w C sl) (ht : Lib.TabIs Tryz.prog w "internal/strconv.uint64pow10" .u64 Lib.pow10Tab) (hm : 0 ≤ m ∧ m ≤ 255) :
    Calls Tryz.prog 4 #[n.val, .slice C sl.length cC, .int .u8 m] w (RetW (.bool true) w) := by
  obtain ⟨d, rfl⟩ : ∃ j : Nat, m = (j : Int) := ⟨m.toNat, by omega⟩
  have hd : d ≤ 255 := by omega
  cases hv : (vNet n.nl n.ll && vCat sl) with
  | false => exact lengths_inv n.nl n.A n.c n.ll n.B n.c' sl C cC d w h hs ht hv
  | true =>
    cases hp : pipOK sl n.ll with
    | false => exact lengths_bad n.nl n.A n.c n.ll n.B n.c' sl C cC d w h hs ht hv hp
    | true => exact lengths_ok n.nl n.A n.c n.ll n.B n.c' sl C cC d w h hs ht hd hv hp
end Go.Proofs.YtdcdfjinbieblaaGreatDoor
