/- Parts of one proof, joined: The reference's FindNode, FindLink: what each returns; nothing that was there is turned. (Printed by gen_nwv.py.). The reference's Valid of networks: what it returns; nothing that was there is turned. (Printed by gen_nwv.py.). The reference's Valid of catalogues: what it returns; nothing that was there is turned. (Printed by gen_ca.py.). The reference's quotients rounded down and up by a number from 1 on (sewershedref04); nothing that was there is turned. The reference's Pipes: the bill of the pipes in memory of the call's own, or the error; nothing that was there is turned. (Printed by gen_pif.py.). -/
import Derived.Test.YtdcdfjinbieblaaGreatDoorPkCostsPipes18
import Derived.Test.YtdcdfjinbieblaaGreatDoorPkCostsPipes23
import Derived.Test.YtdcdfjinbieblaaGreatDoorPkCostsPipes24
import Derived.Test.YtdcdfjinbieblaaGreatDoorPkCostsPipes16
import Derived.Test.YtdcdfjinbieblaaGreatDoorPkCostsPipes21
import Derived.Test.YtdcdfjinbieblaaGreatDoorPkCostsPipes22
import Derived.Test.YtdcdfjinbieblaaGreatDoorPkCostsPipes2
import Derived.Test.YtdcdfjinbieblaaGreatDoorPkCostsPipes6
namespace Go.Proofs.YtdcdfjinbieblaaGreatDoor
open Go Go.RowKit

set_option maxRecDepth 100000 in
set_option maxHeartbeats 2000000 in
theorem rFindNode_any (n : Net) (s : ByteArray) (w : World) (h : NodSl w n.A n.nl) : Calls Tryz.prog 33 #[n.val, .string s] w (RetW (.int .i64 (ndIx n.nl s)) w) := by
  have hlen : n.nl.length ≤ 9223372036854775807 := by have := h.1.1; unfold maxLen at this; omega
  have H := hide h
  have X := (Own.start w).alloc #[.slice n.A n.nl.length n.c, .slice n.B n.ll.length n.c'] 25
  have hr := X.r1
  have XB := hide X
  clear X h
  show Calls Tryz.prog _ _ w (RetW (.int .i64 (ixB (fun x => x.nm.toList == s.toList) n.nl)) w)
  go_enter Tryz.func33, Tryz.ntmps33
  go_wp2
  go_loopw [5] (fun v5 wr => ∃ k : Nat, k ≤ n.nl.length ∧ v5 = .int .i64 k ∧ Hid (Own w wr [(w.heap.size, 25, #[.slice n.A n.nl.length n.c, .slice n.B n.ll.length n.c'])]) ∧ Hid (∀ i (hi : i < n.nl.length), i < k → (n.nl[i].nm.toList == s.toList) = false)) (fun v5 _ => n.nl.length - (intOf v5).toNat)
  case atStart => exact ⟨0, Nat.zero_le _, rfl, XB, hide (fun _ _ h => by omega)⟩
  case round =>
    clear hr XB
    obtain ⟨k, hk, rfl, HW, hno⟩ := hrel
    have hr := HW.out.r1
    by_cases hlt : k < n.nl.length
    · obtain ⟨b, off, hA, hbl, hat⟩ := (H.out.below HW.out.1).2 (by omega)
      have c0 := (hat k hlt).c0
      rw [hA] at hr HW
      have g0 : (0 : Int) ≤ (k : Int) := by omega
      have g1 : (k : Int) < (n.nl.length : Int) := by omega
      have d1 : decide (k < n.nl.length) = true := decide_eq_true hlt
      clear hat
      by_cases hs : (n.nl[k].nm.toList == s.toList) = true
      · have E := hide (ixB_yes (p := fun x : Nod => x.nm.toList == s.toList) hlt (fun i hi hik => hno.out i hi hik) hs)
        have hs' := hide hs
        clear hno hs
        generalize n.nl[k] = o at *
        have hs := hs'.out
        clear hs'
        go_wp2
        go_ret
        exact ⟨ret_int E.out.symm, HW.out.1⟩
      · have hs : (n.nl[k].nm.toList == s.toList) = false := by simpa using hs
        have hno2 := hide (fun i (hi : i < n.nl.length) (hik : i < k + 1) => (show (n.nl[i].nm.toList == s.toList) = false by
          by_cases e : i = k
          · subst e; exact hs
          · exact hno.out i hi (by omega)))
        clear hno
        generalize n.nl[k] = o at *
        go_wp2
        go_roundw
        case rel => exact ⟨k + 1, by omega, by go_num, by rw [hA]; exact HW, hno2⟩
        case measure => simp [intOf]; omega
    · have d1 : decide (k < n.nl.length) = false := decide_eq_false hlt
      go_wp2
      go_ret
      exact ⟨ret_int (ixB_no fun i hi => hno.out i hi (by omega)).symm, HW.out.1⟩
set_option maxRecDepth 100000 in
set_option maxHeartbeats 2000000 in
theorem rFindLink_any (n : Net) (s : ByteArray) (w : World) (h : LnkSl w n.B n.ll) : Calls Tryz.prog 35 #[n.val, .string s] w (RetW (.int .i64 (lkIx n.ll s)) w) := by
  have hlen : n.ll.length ≤ 9223372036854775807 := by have := h.1.1; unfold maxLen at this; omega
  have H := hide h
  have X := (Own.start w).alloc #[.slice n.A n.nl.length n.c, .slice n.B n.ll.length n.c'] 25
  have hr := X.r1
  have XB := hide X
  clear X h
  show Calls Tryz.prog _ _ w (RetW (.int .i64 (ixB (fun x => x.nm.toList == s.toList) n.ll)) w)
  go_enter Tryz.func35, Tryz.ntmps35
  go_wp2
  go_loopw [5] (fun v5 wr => ∃ k : Nat, k ≤ n.ll.length ∧ v5 = .int .i64 k ∧ Hid (Own w wr [(w.heap.size, 25, #[.slice n.A n.nl.length n.c, .slice n.B n.ll.length n.c'])]) ∧ Hid (∀ i (hi : i < n.ll.length), i < k → (n.ll[i].nm.toList == s.toList) = false)) (fun v5 _ => n.ll.length - (intOf v5).toNat)
  case atStart => exact ⟨0, Nat.zero_le _, rfl, XB, hide (fun _ _ h => by omega)⟩
  case round =>
    clear hr XB
    obtain ⟨k, hk, rfl, HW, hno⟩ := hrel
    have hr := HW.out.r1
    by_cases hlt : k < n.ll.length
    · obtain ⟨b, off, hA, hbl, hat⟩ := (H.out.below HW.out.1).2 (by omega)
      have c0 := (hat k hlt).c0
      rw [hA] at hr HW
      have g0 : (0 : Int) ≤ (k : Int) := by omega
      have g1 : (k : Int) < (n.ll.length : Int) := by omega
      have d1 : decide (k < n.ll.length) = true := decide_eq_true hlt
      clear hat
      by_cases hs : (n.ll[k].nm.toList == s.toList) = true
      · have E := hide (ixB_yes (p := fun x : Lnk => x.nm.toList == s.toList) hlt (fun i hi hik => hno.out i hi hik) hs)
        have hs' := hide hs
        clear hno hs
        generalize n.ll[k] = o at *
        have hs := hs'.out
        clear hs'
        go_wp2
        go_ret
        exact ⟨ret_int E.out.symm, HW.out.1⟩
      · have hs : (n.ll[k].nm.toList == s.toList) = false := by simpa using hs
        have hno2 := hide (fun i (hi : i < n.ll.length) (hik : i < k + 1) => (show (n.ll[i].nm.toList == s.toList) = false by
          by_cases e : i = k
          · subst e; exact hs
          · exact hno.out i hi (by omega)))
        clear hno
        generalize n.ll[k] = o at *
        go_wp2
        go_roundw
        case rel => exact ⟨k + 1, by omega, by go_num, by rw [hA]; exact HW, hno2⟩
        case measure => simp [intOf]; omega
    · have d1 : decide (k < n.ll.length) = false := decide_eq_false hlt
      go_wp2
      go_ret
      exact ⟨ret_int (ixB_no fun i hi => hno.out i hi (by omega)).symm, HW.out.1⟩
end Go.Proofs.YtdcdfjinbieblaaGreatDoor

namespace Go.Proofs.YtdcdfjinbieblaaGreatDoor
open Go Go.RowKit

set_option maxRecDepth 100000 in
set_option maxHeartbeats 8000000 in
theorem rnvalid_raw (nl : List Nod) (A : Option Addr) (cA : Nat) (ll : List Lnk) (B : Option Addr) (cB : Nat) (w : World) (h : NodSl w A nl ∧ LnkSl w B ll) : Calls Tryz.prog 12 #[.agg #[.slice A nl.length cA, .slice B ll.length cB]] w (RetW (.bool (vNet nl ll)) w) := by
  have hlen1 : nl.length ≤ 9223372036854775807 := by have := h.1.1.1; unfold maxLen at this; omega
  have hlen2 : ll.length ≤ 9223372036854775807 := by have := h.2.1.1; unfold maxLen at this; omega
  have HN := hide h.1
  have HL := hide h.2
  have RN := hide (fun k (hk : k < nl.length) W (hb : Below w.heap.size w W) => rnode_any nl[k] W ((h.1.below hb).1.2 k hk).1 ((h.1.below hb).1.2 k hk).2)
  have RL := hide (fun k (hk : k < ll.length) W (hb : Below w.heap.size w W) => rlink_any ll[k] W ((h.2.below hb).1.2 k hk).1 ((h.2.below hb).1.2 k hk).2)
  have NI : Hid (∀ (s : ByteArray) (W : World), Below w.heap.size w W → Calls Tryz.prog 33 #[.agg #[.slice A nl.length cA, .slice B ll.length cB], .string s] W (RetW (.int .i64 (ndIx nl s)) W)) := hide (fun s W (hb : Below w.heap.size w W) => rFindNode_any ⟨nl, A, cA, ll, B, cB⟩ s W (h.1.below hb))
  have LI : Hid (∀ (s : ByteArray) (W : World), Below w.heap.size w W → Calls Tryz.prog 35 #[.agg #[.slice A nl.length cA, .slice B ll.length cB], .string s] W (RetW (.int .i64 (lkIx ll s)) W)) := hide (fun s W (hb : Below w.heap.size w W) => rFindLink_any ⟨nl, A, cA, ll, B, cB⟩ s W (h.2.below hb))
  unfold RetW at RN RL NI LI
  have VB1 := hide (fun h => vNet_many (nl := nl) (ll := ll) h)
  have VB2 := hide (fun k hk h => vNet_nod (nl := nl) (ll := ll) (k := k) hk h)
  have VB3 := hide (fun k hk h => vNet_lnk (nl := nl) (ll := ll) (k := k) hk h)
  have VAL := hide (fun h1 h2 h3 h4 => vNet_all (nl := nl) (ll := ll) h1 h2 h3 h4)
  have X := (Own.start w).alloc #[.slice A nl.length cA, .slice B ll.length cB] 25
  have hr := X.r1
  have XB := hide X
  clear X h
  generalize vNet nl ll = v at *
  by_cases k1 : 300 < nl.length
  · have g0 : decide (300 < (nl.length : Int)) = true := decide_eq_true (by omega)
    have g1 : decide (300 < nl.length) = true := decide_eq_true (by omega)
    have E := hide (VB1.out (.inl k1))
    go_enter Tryz.func12, Tryz.ntmps12
    go_wp2
    go_ret
    exact ⟨ret_bool E.out.symm, XB.out.1⟩
  have g0 : decide (300 < (nl.length : Int)) = false := decide_eq_false (by omega)
  have g1 : decide (300 < nl.length) = false := decide_eq_false (by omega)
  by_cases k2 : 400 < ll.length
  · have g2 : decide (400 < (ll.length : Int)) = true := decide_eq_true (by omega)
    have g3 : decide (400 < ll.length) = true := decide_eq_true (by omega)
    have E := hide (VB1.out (.inr k2))
    go_enter Tryz.func12, Tryz.ntmps12
    go_wp2
    go_ret
    exact ⟨ret_bool E.out.symm, XB.out.1⟩
  have g2 : decide (400 < (ll.length : Int)) = false := decide_eq_false (by omega)
  have g3 : decide (400 < ll.length) = false := decide_eq_false (by omega)
  go_enter Tryz.func12, Tryz.ntmps12
  go_wp2
  go_loopw [3] (fun v wr => ∃ k : Nat, k ≤ nl.length ∧ v = .int .i64 (k : Int) ∧ Hid (Own w wr [(w.heap.size, 25, #[.slice A nl.length cA, .slice B ll.length cB])]) ∧ Hid (∀ i, i < k → nodOk nl i = true)) (fun v _ => nl.length - (intOf v).toNat)
  case atStart => exact ⟨0, by omega, rfl, XB, hide (fun _ h => by omega)⟩
  case round =>
    clear hr XB g0 g1 g2 g3
    obtain ⟨k, hk, rfl, HW, HO⟩ := hrel
    have hr := HW.out.r1
    by_cases hlt : k < nl.length
    · obtain ⟨b, off, rfl, hbl, hat⟩ := HN.out.2 (by omega)
      obtain ⟨c0, c1, c2, c3, c4, c5, c6, c7, c8⟩ := hat k hlt
      have NO := hide (fun hh => VB2.out k hlt (nodOk_no hlt hh))
      have OK := hide (fun (h1 : nodB nl[k] = true) (h2 : (ndIx nl nl[k].nm == (k : Int)) = true) i (hik : i < k + 1) => (show nodOk nl i = true by
        by_cases e : i = k
        · subst e; exact nodOk_yes hlt h1 h2
        · exact HO.out i (by omega)))
      have RNk := hide (fun W hb => RN.out k hlt W hb)
      have NIk := hide (fun W hb => NI.out nl[k].nm W hb)
      have d1 : decide (k < nl.length) = true := decide_eq_true hlt
      have d2 : (0 : Int) ≤ (k : Int) := by omega
      have d3 : (k : Int) < (nl.length : Int) := by omega
      have NE : Nonempty (OwnW w [(w.heap.size, 25, #[.slice (some ⟨b, off, none⟩) nl.length cA, .slice B ll.length cB])]) := ⟨⟨_, HW.out⟩⟩
      have Z := fun z : OwnW w [(w.heap.size, 25, #[.slice (some ⟨b, off, none⟩) nl.length cA, .slice B ll.length cB])] => z.own.r1
      have Z0 := fun z : OwnW w [(w.heap.size, 25, #[.slice (some ⟨b, off, none⟩) nl.length cA, .slice B ll.length cB])] => (z.own.1.cell (p := ⟨b, off + k * 9, none⟩) hbl).trans c0
      have Z1 := fun z : OwnW w [(w.heap.size, 25, #[.slice (some ⟨b, off, none⟩) nl.length cA, .slice B ll.length cB])] => (z.own.1.cell (p := ⟨b, off + k * 9 + 1, none⟩) hbl).trans c1
      have Z2 := fun z : OwnW w [(w.heap.size, 25, #[.slice (some ⟨b, off, none⟩) nl.length cA, .slice B ll.length cB])] => (z.own.1.cell (p := ⟨b, off + k * 9 + 2, none⟩) hbl).trans c2
      have Z3 := fun z : OwnW w [(w.heap.size, 25, #[.slice (some ⟨b, off, none⟩) nl.length cA, .slice B ll.length cB])] => (z.own.1.cell (p := ⟨b, off + k * 9 + 3, none⟩) hbl).trans c3
      have Z4 := fun z : OwnW w [(w.heap.size, 25, #[.slice (some ⟨b, off, none⟩) nl.length cA, .slice B ll.length cB])] => (z.own.1.cell (p := ⟨b, off + k * 9 + 4, none⟩) hbl).trans c4
      have Z5 := fun z : OwnW w [(w.heap.size, 25, #[.slice (some ⟨b, off, none⟩) nl.length cA, .slice B ll.length cB])] => (z.own.1.cell (p := ⟨b, off + k * 9 + 5, none⟩) hbl).trans c5
      have Z6 := fun z : OwnW w [(w.heap.size, 25, #[.slice (some ⟨b, off, none⟩) nl.length cA, .slice B ll.length cB])] => (z.own.1.cell (p := ⟨b, off + k * 9 + 6, none⟩) hbl).trans c6
      have Z7 := fun z : OwnW w [(w.heap.size, 25, #[.slice (some ⟨b, off, none⟩) nl.length cA, .slice B ll.length cB])] => (z.own.1.cell (p := ⟨b, off + k * 9 + 7, none⟩) hbl).trans c7
      have Z8 := fun z : OwnW w [(w.heap.size, 25, #[.slice (some ⟨b, off, none⟩) nl.length cA, .slice B ll.length cB])] => (z.own.1.cell (p := ⟨b, off + k * 9 + 8, none⟩) hbl).trans c8
      clear hat RN RL NI LI VB1 VB2 VB3 VAL HO c0 c1 c2 c3 c4 c5 c6 c7 c8
      generalize nl[k] = x at *
      generalize ndIx nl x.nm = i at *
      generalize nodB x = c at *
      cases c with
      | false =>
        have E := hide (NO.out (.inl rfl))
        clear NO OK NIk
        go_wp2_with fail
        refine wp_region_own (w := w) (L := [(w.heap.size, 25, #[.slice (some ⟨b, off, none⟩) nl.length cA, .slice B ll.length cB])]) (by kernel_rfl) (by kernel_rfl) HW.out ?_
        repeat (go_big_quiet_step ((rename_i z; exact own_call (RNk.out _ z.own.1))))
        refine wpQuiet_nil ?_
        rintro _ ⟨⟨W, HX⟩, rfl⟩
        replace HX := hide HX
        go_wp2
        go_ret
        exact ⟨ret_bool E.out.symm, HX.out.1⟩
      | true =>
        cases hq : (i == (k : Int)) with
        | false =>
          have E := hide (NO.out (.inr hq))
          clear NO OK
          go_wp2_with fail
          refine wp_region_own (w := w) (L := [(w.heap.size, 25, #[.slice (some ⟨b, off, none⟩) nl.length cA, .slice B ll.length cB])]) (by kernel_rfl) (by kernel_rfl) HW.out ?_
          repeat (go_big_quiet_step ((rename_i z; first | exact own_call (RNk.out _ z.own.1) | exact own_call (NIk.out _ z.own.1))))
          refine wpQuiet_nil ?_
          rintro _ ⟨⟨W, HX⟩, rfl⟩
          replace HX := hide HX
          go_wp2
          go_ret
          exact ⟨ret_bool E.out.symm, HX.out.1⟩
        | true =>
          have E := hide (OK.out (by trivial) hq)
          clear NO OK
          go_wp2_with fail
          refine wp_region_own (w := w) (L := [(w.heap.size, 25, #[.slice (some ⟨b, off, none⟩) nl.length cA, .slice B ll.length cB])]) (by kernel_rfl) (by kernel_rfl) HW.out ?_
          repeat (go_big_quiet_step ((rename_i z; first | exact own_call (RNk.out _ z.own.1) | exact own_call (NIk.out _ z.own.1))))
          refine wpQuiet_nil ?_
          rintro _ ⟨⟨W, HX⟩, rfl⟩
          replace HX := hide HX
          go_wp2
          go_roundw
          case rel => exact ⟨k + 1, by omega, by go_num, HX, E⟩
          case measure => simp [intOf]; omega
    · have d1 : decide (k < nl.length) = false := decide_eq_false hlt
      have ALL1 := hide (fun i (hi : i < nl.length) => HO.out i (by omega))
      clear HO RN
      go_wp2
      obtain ⟨wa, rfl⟩ : ∃ z, z = wr := ⟨_, rfl⟩
      go_loopw [4] (fun v wr => ∃ k : Nat, k ≤ ll.length ∧ v = .int .i64 (k : Int) ∧ Hid (Own w wr [(w.heap.size, 25, #[.slice A nl.length cA, .slice B ll.length cB])]) ∧ Hid (∀ i, i < k → lnkOk nl ll i = true)) (fun v _ => ll.length - (intOf v).toNat)
      case atStart => exact ⟨0, by omega, rfl, HW, hide (fun _ h => by omega)⟩
      case round =>
        clear hr HW hlt d1
        obtain ⟨m, hm, rfl, HW, HO⟩ := hrel
        have hr := HW.out.r1
        by_cases hlt : m < ll.length
        · obtain ⟨b, off, rfl, hbl, hat⟩ := (HL.out.below HW.out.1).2 (by omega)
          have cs := hat m hlt
          obtain ⟨c0, c1, c2, c3, c4, c5, c6, c7, c8, c9, ca⟩ := cs
          have NO := hide (fun hh => VB3.out m hlt (lnkOk_no hlt hh))
          have NO3 := hide (fun j (hj : j < nl.length) hh hf => VB3.out m hlt (lnkOk_kd hlt hj hh hf))
          have OK := hide (fun j i2 (hj : j < nl.length) h0 h1 h2 hf hh i (hik : i < m + 1) => (show lnkOk nl ll i = true by
            by_cases e : i = m
            · subst e; exact lnkOk_yes (i := i2) hlt hj h0 h1 h2 hf hh
            · exact HO.out i (by omega)))
          have RLk := hide (fun W hb => RL.out m hlt W hb)
          have LIk := hide (fun W hb => LI.out ll[m].nm W hb)
          have FRk := hide (fun W hb => NI.out ll[m].fr W hb)
          have TOk := hide (fun W hb => NI.out ll[m].tn W hb)
          have RF := ndIx_range nl ll[m].fr
          have RT := ndIx_range nl ll[m].tn
          replace RF := hide RF
          replace RT := hide RT
          have d1 : decide (m < ll.length) = true := decide_eq_true hlt
          have d2 : (0 : Int) ≤ (m : Int) := by omega
          have d3 : (m : Int) < (ll.length : Int) := by omega
          clear hat RL NI LI VB1 VB2 VB3 VAL HO
          generalize ll[m] = x at *
          have XN := hide (HW.out.alloc #[.string x.nm, .string x.fr, .string x.tn, .int .i64 x.kd, .int .i64 x.le, .int .i64 x.up, .int .i64 x.dn, .string x.se, .int .i64 x.wi, .int .i64 x.he, .slice x.cu.A x.cu.l.length x.cu.c] 50)
          have hr2 := XN.out.r2
          generalize lkIx ll x.nm = i at *
          generalize ndIx nl x.fr = fi at *
          generalize ndIx nl x.tn = ti at *
          generalize lnkB x = c at *
          cases c with
          | false =>
            have E := hide (NO.out (.inl rfl))
            clear NO OK NO3 LIk FRk TOk RF RT
            go_wp2_with fail
            refine (RLk.out _ XN.out.1).mono ?_
            rintro e w2 ⟨rfl, hb⟩
            replace XN := hide (XN.out.to hb)
            clear hb hr2
            have hr2 := XN.out.r2
            go_wp2
            go_ret
            exact ⟨ret_bool E.out.symm, XN.out.1⟩
          | true =>
            go_wp2_with fail
            refine (RLk.out _ XN.out.1).mono ?_
            rintro e w2 ⟨rfl, hb⟩
            replace XN := hide (XN.out.to hb)
            clear hb hr2
            have hr2 := XN.out.r2
            go_wp2_with fail
            refine (LIk.out _ XN.out.1).mono ?_
            rintro e w3 ⟨rfl, hb⟩
            replace XN := hide (XN.out.to hb)
            clear hb hr2
            have hr2 := XN.out.r2
            cases hq : (i == (m : Int)) with
            | false =>
              have E := hide (NO.out (.inr (.inl hq)))
              have hn : ¬ i = (m : Int) := by simpa using hq
              clear NO OK NO3 FRk TOk RF RT
              go_wp2
              go_ret
              exact ⟨ret_bool E.out.symm, XN.out.1⟩
            | true =>
              have hn : i = (m : Int) := by simpa using hq
              subst hn
              go_wp2_with fail
              refine (TOk.out _ XN.out.1).mono ?_
              rintro e w4 ⟨rfl, hb⟩
              replace XN := hide (XN.out.to hb)
              clear hb hr2
              have hr2 := XN.out.r2
              rcases RT.out with rfl | ⟨j2, rfl, hj2⟩
              · have E := hide (NO.out (.inr (.inr (.inl rfl))))
                clear NO OK NO3 FRk TOk RF RT
                go_wp2
                go_ret
                exact ⟨ret_bool E.out.symm, XN.out.1⟩
              · have dj2 : decide ((j2 : Int) < 0) = false := decide_eq_false (by omega)
                go_wp2_with fail
                refine (FRk.out _ XN.out.1).mono ?_
                rintro e w5 ⟨rfl, hb⟩
                replace XN := hide (XN.out.to hb)
                clear hb hr2
                have hr2 := XN.out.r2
                rcases RF.out with rfl | ⟨j, rfl, hj⟩
                · have E := hide (NO.out (.inr (.inr (.inr rfl))))
                  clear NO OK NO3 FRk TOk RF RT
                  go_wp2
                  go_ret
                  exact ⟨ret_bool E.out.symm, XN.out.1⟩
                · have dj : decide ((j : Int) < 0) = false := decide_eq_false (by omega)
                  obtain ⟨b2, off2, rfl, hbl2, hat2⟩ := (HN.out.below XN.out.1).2 (by omega)
                  have e1 := (hat2 j hj).c1
                  have d4 : (0 : Int) ≤ (j : Int) := by omega
                  have d5 : (j : Int) < (nl.length : Int) := by omega
                  have NOj := hide (fun hh => NO3.out j hj hh rfl)
                  have OKj := hide (fun hh => OK.out j j2 hj (by trivial) hq rfl rfl hh)
                  clear hat2 NO OK NO3 RF RT FRk TOk
                  generalize nl[j] = y at *
                  cases hy : (y.kd == 3) with
                  | true =>
                    have E := hide (NOj.out hy)
                    clear NOj OKj
                    go_wp2
                    go_ret
                    exact ⟨ret_bool E.out.symm, XN.out.1⟩
                  | false =>
                    have E := hide (OKj.out hy)
                    clear NOj OKj
                    go_wp2
                    go_roundw
                    case rel => exact ⟨m + 1, by omega, by go_num, hide XN.out.tail, E⟩
                    case measure => simp [intOf]; omega
        · have d1 : decide (m < ll.length) = false := decide_eq_false hlt
          have E := hide (VAL.out (by omega) (by omega) ALL1.out (fun i hi => HO.out i (by omega)))
          go_wp2
          go_ret
          exact ⟨ret_bool E.out.symm, HW.out.1⟩
set_option maxRecDepth 100000 in
theorem rnvalid_any (n : Net) (w : World) (h : NetSl w n) : Calls Tryz.prog 12 #[n.val] w (RetW (.bool (vNet n.nl n.ll)) w) := rnvalid_raw n.nl n.A n.c n.ll n.B n.c' w h
end Go.Proofs.YtdcdfjinbieblaaGreatDoor

namespace Go.Proofs.YtdcdfjinbieblaaGreatDoor
open Go Go.RowKit

set_option maxRecDepth 100000 in
set_option maxHeartbeats 4000000 in
theorem rcat_any (l : List Sec) (A : Option Addr) (cap : Nat) (w : World) (h : SecSl w A l) : Calls Tryz.prog 13 #[.slice A l.length cap] w (RetW (.bool (vCat l)) w) := by
  have hlen : l.length ≤ 9223372036854775807 := by have := h.1.1; unfold maxLen at this; omega
  have H := hide h
  have RN := hide (fun k (hk : k < l.length) W (hb : Below w.heap.size w W) => rright_any l[k] W ((h.below hb).1.2 k hk).1 ((h.below hb).1.2 k hk).2.1 ((h.below hb).1.2 k hk).2.2)
  have NI := hide (fun s W (hb : Below w.heap.size w W) => rseFind_any l A cap s W (h.below hb))
  unfold RetW at RN NI
  have VB1 := hide (fun h => vCat_many (sl := l) h)
  have VB2 := hide (fun k hk h => vCat_bad (sl := l) (k := k) hk h)
  have VAL := hide (fun h1 h2 => vCat_all (sl := l) h1 h2)
  clear h
  generalize vCat l = v at *
  by_cases k1 : 40 < l.length
  · have g0 : decide (40 < (l.length : Int)) = true := decide_eq_true (by omega)
    have g1 : decide (40 < l.length) = true := decide_eq_true (by omega)
    have E := hide (VB1.out k1)
    go_enter Tryz.func13, Tryz.ntmps13
    go_wp2
    go_ret
    exact ⟨ret_bool E.out.symm, Below.refl _ _⟩
  have g0 : decide (40 < (l.length : Int)) = false := decide_eq_false (by omega)
  have g1 : decide (40 < l.length) = false := decide_eq_false (by omega)
  go_enter Tryz.func13, Tryz.ntmps13
  go_wp2
  go_loopw [3] (fun v wr => ∃ k : Nat, k ≤ l.length ∧ v = .int .i64 (k : Int) ∧ Hid (Below w.heap.size w wr) ∧ Hid (∀ i, i < k → secOk l i = true)) (fun v _ => l.length - (intOf v).toNat)
  case atStart => exact ⟨0, by omega, rfl, hide (Below.refl _ _), hide (fun _ h => by omega)⟩
  case round =>
    clear g0 g1
    obtain ⟨k, hk, rfl, HW, HO⟩ := hrel
    by_cases hlt : k < l.length
    · obtain ⟨b, off, rfl, hbl, hat⟩ := H.out.2 (by omega)
      have HA := hide (hat k hlt)
      have HB := hide hbl
      obtain ⟨c0, c1, c2, c3, c4⟩ := (hat k hlt).below HW.out hbl
      have NO := hide (fun hh => VB2.out k hlt (secOk_no hlt hh))
      have OK := hide (fun (h1 : secB l[k] = true) (h2 : seIx l l[k].nm = (k : Int)) i (hik : i < k + 1) => (show secOk l i = true by
        by_cases e : i = k
        · subst e; exact secOk_yes hlt h1 h2
        · exact HO.out i (by omega)))
      have RNk := hide (fun W hb => RN.out k hlt W hb)
      have NIk := hide (fun W hb => NI.out l[k].nm W hb)
      have d1 : decide (k < l.length) = true := decide_eq_true hlt
      have d2 : (0 : Int) ≤ (k : Int) := by omega
      have d3 : (k : Int) < (l.length : Int) := by omega
      clear hat hbl RN NI VB1 VB2 VAL HO
      generalize l[k] = x at *
      generalize seIx l x.nm = i at *
      generalize secB x = c at *
      cases c with
      | false =>
        have E := hide (NO.out (.inl rfl))
        clear NO OK NIk HA
        go_wp2_with fail
        refine (RNk.out _ HW.out).mono ?_
        rintro e w2 ⟨rfl, hb⟩
        have HX := hide (below_via HW.out HW.out.size hb)
        clear hb
        go_wp2
        go_ret
        exact ⟨ret_bool E.out.symm, HX.out⟩
      | true =>
        go_wp2_with fail
        refine (RNk.out _ HW.out).mono ?_
        rintro e w2 ⟨rfl, hb⟩
        have HX := hide (below_via HW.out HW.out.size hb)
        clear hb c0 c1 c2 c3 c4
        have e0 := (HA.out.below HX.out HB.out).c0
        go_wp2_with fail
        refine (NIk.out _ HX.out).mono ?_
        rintro e w3 ⟨rfl, hb⟩
        have HY := hide (below_via HX.out HX.out.size hb)
        clear hb e0
        by_cases hq : i = (k : Int)
        · subst hq
          have E := hide (OK.out (by trivial) rfl)
          clear NO OK HA
          go_wp2
          go_roundw
          case rel => exact ⟨k + 1, by omega, by go_num, HY, E⟩
          case measure => simp [intOf]; omega
        · have E := hide (NO.out (.inr hq))
          have hq2 : (i == (k : Int)) = false := by simpa using hq
          clear NO OK HA
          go_wp2
          go_ret
          exact ⟨ret_bool E.out.symm, HY.out⟩
    · have d1 : decide (k < l.length) = false := decide_eq_false hlt
      have E := hide (VAL.out (by omega) (fun i hi => HO.out i (by omega)))
      go_wp2
      go_ret
      exact ⟨ret_bool E.out.symm, HW.out⟩
end Go.Proofs.YtdcdfjinbieblaaGreatDoor

namespace Go.Proofs.YtdcdfjinbieblaaGreatDoor
open Go Go.RowKit

theorem floor4_of {n d q : Int} (hd : 1 ≤ d) (hq : q = n.tdiv d) : (n < q * d → n / d = q - 1) ∧ (¬ n < q * d → n / d = q) ∧ -d < n - q * d ∧ n - q * d < d := by
  have e := Int.mul_tdiv_add_tmod n d
  have r1 : n.tmod d < d := Int.tmod_lt_of_pos n (by omega)
  have r2 : -d < n.tmod d := by
    rcases Int.lt_or_le n 0 with h | h
    · have h3 := Int.tmod_lt_of_pos (-n) (show 0 < d by omega)
      rw [Int.neg_tmod] at h3
      omega
    · have := Int.tmod_nonneg d h
      omega
  rw [← hq, Int.mul_comm] at e
  have key : ∀ r p : Int, r + d * p = n → 0 ≤ r → r < d → n / d = p := fun r p h1 h2 h3 => ((Int.ediv_emod_unique (by omega)).2 ⟨h1, h2, h3⟩).1
  have c : d * q = q * d := Int.mul_comm _ _
  refine ⟨fun h => key (n - q * d + d) (q - 1) ?_ (by omega) (by omega), fun h => key (n - q * d) q (by omega) (by omega) (by omega), by omega, by omega⟩
  rw [Int.mul_sub, Int.mul_one]
  omega
theorem ediv_rng {n d b : Int} (hd : 1 ≤ d) (h : -b ≤ n ∧ n ≤ b) (hb : 0 ≤ b) : -b ≤ n / d ∧ n / d ≤ b := by
  constructor
  · rcases Int.lt_or_le n 0 with k | k
    · refine (Int.le_ediv_iff_mul_le (by omega)).2 ?_
      have : (-b) * d ≤ -b * 1 := Int.mul_le_mul_of_nonpos_left (by omega) hd
      omega
    · have := Int.ediv_nonneg k (show 0 ≤ d by omega); omega
  · rcases Int.lt_or_le n 0 with k | k
    · have := Int.ediv_neg_of_neg_of_pos k (show 0 < d by omega); omega
    · have := Int.ediv_le_self d k; omega
set_option maxHeartbeats 1000000 in
theorem rfloor4_any (n d : Int) (w : World) (hd : 1 ≤ d ∧ d ≤ 1073741824) (hn : -2305843009213693952 ≤ n ∧ n ≤ 2305843009213693952) : Calls Tryz.prog 56 #[.int .i64 n, .int .i64 d] w (fun e w' => e = .returned (.int .i64 (n / d)) ∧ w' = w) := by
  obtain ⟨q, hq⟩ : ∃ q, q = n.tdiv d := ⟨_, rfl⟩
  obtain ⟨f1, f2, f3, f4⟩ := floor4_of hd.1 hq
  obtain ⟨p, hp⟩ : ∃ p, p = q * d := ⟨_, rfl⟩
  rw [← hp] at f1 f2 f3 f4
  have qb := ediv_rng (n := n) (d := d) (b := 2305843009213693952) hd.1 hn (by omega)
  have q5 : (d == 0) = false := beq_eq_false_iff_ne.2 (by omega)
  have q6 : ¬ d = 0 := by omega
  by_cases h : n < p
  · have e := f1 h
    rw [e] at qb ⊢
    have w1 : IntKind.i64.wrap (n.tdiv d) = q := by rw [← hq]; exact IntWalk.i64_in _ (by omega)
    have w2 : IntKind.i64.wrap (q * d) = p := by rw [← hp]; exact IntWalk.i64_in _ (by omega)
    have w4 : IntKind.i64.wrap (q - 1) = q - 1 := IntWalk.i64_in _ (by omega)
    have g : decide (n < p) = true := decide_eq_true h
    clear f1 f2 f3 f4 e h hq hp qb
    go_enter Tryz.func56, Tryz.ntmps56
    go_wp2
    go_ret
    exact ⟨rfl, rfl⟩
  · have e := f2 h
    rw [e] at qb ⊢
    have w1 : IntKind.i64.wrap (n.tdiv d) = q := by rw [← hq]; exact IntWalk.i64_in _ (by omega)
    have w2 : IntKind.i64.wrap (q * d) = p := by rw [← hp]; exact IntWalk.i64_in _ (by omega)
    have g : decide (n < p) = false := decide_eq_false h
    clear f1 f2 f3 f4 e h hq hp qb
    go_enter Tryz.func56, Tryz.ntmps56
    go_wp2
    go_ret
    exact ⟨rfl, rfl⟩
set_option maxHeartbeats 1000000 in
theorem rceil4_any (n d : Int) (w : World) (hd : 1 ≤ d ∧ d ≤ 1073741824) (hn : -2305843009213693952 ≤ n ∧ n ≤ 2305843009213693952) : Calls Tryz.prog 27 #[.int .i64 n, .int .i64 d] w (fun e w' => e = .returned (.int .i64 (up n d)) ∧ w' = w) := by
  have F := hide (fun W => rfloor4_any (-n) d W hd (by omega))
  have qb := ediv_rng (n := -n) (d := d) (b := 2305843009213693952) hd.1 (by omega) (by omega)
  have E : up n d = -(-n / d) := by unfold up dn; rw [if_neg (by omega)]
  rw [E]
  have w1 : IntKind.i64.wrap (0 - n) = -n := by rw [Int.zero_sub]; exact IntWalk.i64_in _ (by omega)
  have w2 : IntKind.i64.wrap (0 - -n / d) = -(-n / d) := by rw [Int.zero_sub]; exact IntWalk.i64_in _ (by omega)
  clear qb hd hn E
  have F2 : ∃ m q k : Int, IntKind.i64.wrap (0 - n) = m ∧ IntKind.i64.wrap (0 - q) = k ∧ -(-n / d) = k ∧ Hid (∀ W, Calls Tryz.prog 56 #[.int .i64 m, .int .i64 d] W (fun e w' => e = .returned (.int .i64 q) ∧ w' = W)) := ⟨-n, -n / d, -(-n / d), w1, w2, rfl, F⟩
  clear F w1 w2
  obtain ⟨m, q, k, w1, w2, ek, F⟩ := F2
  rw [ek]
  have w3 : IntKind.i64.wrap (-n) = m := by rw [← w1, Int.zero_sub]
  have w4 : IntKind.i64.wrap (-q) = k := by rw [← w2, Int.zero_sub]
  clear ek
  go_enter Tryz.func27, Tryz.ntmps27
  go_wp2_with fail
  refine (F.out _).mono ?_
  rintro e w' ⟨rfl, rfl⟩
  go_wp2
  go_ret
  exact ⟨rfl, rfl⟩
end Go.Proofs.YtdcdfjinbieblaaGreatDoor

namespace Go.Proofs.YtdcdfjinbieblaaGreatDoor
open Go Go.RowKit

theorem up1000 (n : Int) : up n 1000 = (n + 999) / 1000 := by unfold up dn; rw [if_neg (by omega)]; omega
theorem rceil1000 (n : Int) (w : World) (h : 0 ≤ n ∧ n ≤ 6710886400) : Calls Tryz.prog 27 #[.int .i64 n, .int .i64 1000] w fun e w' => e = .returned (.int .i64 ((n + 999) / 1000)) ∧ w = w' :=
  (rceil4_any n 1000 w (by omega) (by omega)).mono fun e w' hh => ⟨by rw [← up1000]; exact hh.1, hh.2.symm⟩

set_option maxRecDepth 100000 in
set_option maxHeartbeats 2000000 in
theorem rpipes_no (nl : List Nod) (A : Option Addr) (cA : Nat) (ll : List Lnk) (B : Option Addr) (cB : Nat) (sl : List Sec) (C : Option Addr) (cC : Nat) (w : World) (h : NodSl w A nl ∧ LnkSl w B ll) (hs : SecSl w C sl) (hv : (vNet nl ll && vCat sl) = false) : Calls Tryz.prog 8 #[.agg #[.slice A nl.length cA, .slice B ll.length cB], .slice C sl.length cC] w (BilPost (piL nl ll sl) (piE nl ll sl) w) := by
  have N1 := hide (fun W (hb : Below w.heap.size w W) => rnvalid_any ⟨nl, A, cA, ll, B, cB⟩ W ⟨h.1.below hb, h.2.below hb⟩)
  have N2 := hide (fun W (hb : Below w.heap.size w W) => rcat_any sl C cC W (hs.below hb))
  unfold RetW at N1 N2
  obtain ⟨e1, e2⟩ := pi_no hv
  rw [e1, e2]
  have X := (Own.start w).alloc #[.slice A nl.length cA, .slice B ll.length cB] 25
  have hr := X.r1
  have XB := hide X
  clear X h hs e1 e2
  cases h1 : vNet nl ll with
  | false =>
    rw [h1] at N1
    clear h1 hv
    go_enter Tryz.func8, Tryz.ntmps8
    go_wp2_with fail
    refine (N1.out _ XB.out.1).mono ?_
    rintro e w1 ⟨rfl, hb⟩
    replace XB := hide (XB.out.to hb)
    clear hb
    go_wp2
    go_ret2
    exact ⟨XB.out.1, none, 0, rfl, ItmSl.nil _ _⟩
  | true =>
    rw [h1] at N1
    have h2 : vCat sl = false := by rw [h1] at hv; simpa using hv
    rw [h2] at N2
    clear h1 h2 hv
    go_enter Tryz.func8, Tryz.ntmps8
    go_wp2_with fail
    refine (N1.out _ XB.out.1).mono ?_
    rintro e w1 ⟨rfl, hb⟩
    replace XB := hide (XB.out.to hb)
    clear hb
    go_wp2_with fail
    refine (N2.out _ XB.out.1).mono ?_
    rintro e w2 ⟨rfl, hb⟩
    replace XB := hide (XB.out.to hb)
    clear hb
    go_wp2
    go_ret2
    exact ⟨XB.out.1, none, 0, rfl, ItmSl.nil _ _⟩
set_option maxRecDepth 100000 in
set_option maxHeartbeats 8000000 in
theorem rpipes_ok (nl : List Nod) (A : Option Addr) (cA : Nat) (ll : List Lnk) (B : Option Addr) (cB : Nat) (sl : List Sec) (C : Option Addr) (cC : Nat) (w : World) (h : NodSl w A nl ∧ LnkSl w B ll) (hs : SecSl w C sl) (hv : (vNet nl ll && vCat sl) = true) : Calls Tryz.prog 8 #[.agg #[.slice A nl.length cA, .slice B ll.length cB], .slice C sl.length cC] w (BilPost (piL nl ll sl) (piE nl ll sl) w) := by
  have N1 := hide (fun W (hb : Below w.heap.size w W) => rnvalid_any ⟨nl, A, cA, ll, B, cB⟩ W ⟨h.1.below hb, h.2.below hb⟩)
  have N2 := hide (fun W (hb : Below w.heap.size w W) => rcat_any sl C cC W (hs.below hb))
  unfold RetW at N1 N2
  obtain ⟨hv1, hv2⟩ : vNet nl ll = true ∧ vCat sl = true := by simpa using hv
  rw [hv1] at N1
  rw [hv2] at N2
  have LB := hide (fun k i => lenA_bound (sl := sl) hv1 k i)
  have LKK := hide (fun m (hm : m < ll.length) hk => lnk_le (lnkOk_at hv1 hm).1 hk)
  have hll : ll.length ≤ 400 := by
    have q := hv1
    unfold vNet at q
    simp only [Bool.and_eq_true, decide_eq_true_eq] at q
    exact q.1.2
  have hsl : sl.length ≤ 40 := by
    have q := hv2
    unfold vCat at q
    simp only [Bool.and_eq_true, decide_eq_true_eq] at q
    exact q.1
  have PBAD := hide (fun (h2 : pipOK sl ll = false) => pi_bad hv h2)
  have PYES := hide (fun (h2 : pipOK sl ll = true) => pi_yes hv h2)
  have HL := hide h.2
  have HS := hide hs
  have MK := make_ints sl.length (by omega)
  have PNM := hide (fun n => pipN_nm (sl := sl) (f := lenA sl ll) (fun i hi => (hs.1.2 i hi).1) n)
  have X := (Own.start w).alloc #[.slice A nl.length cA, .slice B ll.length cB] 25
  have hr := X.r1
  have XB := hide X
  have FD := hide (fun s W (hb : Below w.heap.size w W) => rseFind_any sl C cC s W (hs.below hb))
  unfold RetW at FD
  clear X h hs hv hv1 hv2
  generalize piE nl ll sl = E at *
  generalize piL nl ll sl = PL at *
  go_enter Tryz.func8, Tryz.ntmps8
  go_wp2_with fail
  refine (N1.out _ XB.out.1).mono ?_
  rintro e w1 ⟨rfl, hb⟩
  replace XB := hide (XB.out.to hb)
  clear hb hr
  have hr := XB.out.r1
  go_wp2_with fail
  refine (N2.out _ XB.out.1).mono ?_
  rintro e w2 ⟨rfl, hb⟩
  replace XB := hide (XB.out.to hb)
  clear hb hr N1 N2
  have bw : w.heap.size < w2.heap.size := XB.out.r1.2.2
  have XR := hide (XB.out.alloc (mkRow sl.length (fun _ => .int .i64 0)) 3)
  have hr := XR.out.r2
  have hlen1 : ll.length ≤ 9223372036854775807 := by omega
  have hlen2 : sl.length ≤ 9223372036854775807 := by omega
  go_wp2
  have XR2 : Hid (Own w (w2.alloc (.cells (mkRow sl.length (fun _ => .int .i64 0)) 3)) [(w2.heap.size, 3, mkRow sl.length (lenV sl ll 0)), (w.heap.size, 25, #[.slice A nl.length cA, .slice B ll.length cB])]) := hide (by rw [lenV_zero]; exact XR.out)
  clear hr XR XB MK
  generalize hW : w2.alloc (.cells (mkRow sl.length (fun _ => .int .i64 0)) 3) = W0 at *
  clear hW
  generalize w2.heap.size = bL at *
  go_loopw [7] (fun v wr => ∃ k : Nat, k ≤ ll.length ∧ v = .int .i64 (k : Int) ∧ Hid (Own w wr [(bL, 3, mkRow sl.length (lenV sl ll k)), (w.heap.size, 25, #[.slice A nl.length cA, .slice B ll.length cB])]) ∧ Hid (∀ i (hi : i < ll.length), i < k → ll[i].kd = 1 → 0 ≤ seIx sl ll[i].se)) (fun v _ => ll.length - (intOf v).toNat)
  case atStart => exact ⟨0, by omega, rfl, XR2, hide (fun _ _ h => by omega)⟩
  case round =>
    clear XR2
    obtain ⟨k, hk, rfl, HW, HO⟩ := hrel
    have hr := HW.out.r2
    by_cases hlt : k < ll.length
    · have d1 : decide (k < ll.length) = true := decide_eq_true hlt
      have d2 : (0 : Int) ≤ (k : Int) := by omega
      have d3 : (k : Int) < (ll.length : Int) := by omega
      obtain ⟨b, off, rfl, hbl, hat⟩ := (HL.out.below HW.out.1).2 (by omega)
      obtain ⟨c0, c1, c2, c3, c4, c5, c6, c7, c8, c9, ca⟩ := hat k hlt
      have SK := hide (fun (hh : ¬ ll[k].kd = 1) => lenV_skip (sl := sl) hlt hh)
      have PUT := hide (fun j (hh : ll[k].kd = 1) (hj : seIx sl ll[k].se = ((j : Nat) : Int)) => lenV_put (sl := sl) (n := sl.length) hlt hh hj)
      have OK := hide (fun (hh : ll[k].kd = 1 → 0 ≤ seIx sl ll[k].se) i (hi : i < ll.length) (hik : i < k + 1) => (show ll[i].kd = 1 → 0 ≤ seIx sl ll[i].se by
        by_cases e : i = k
        · subst e; exact hh
        · exact HO.out i hi (by omega)))
      have BAD := hide (fun (hh : ll[k].kd = 1) (h2 : seIx sl ll[k].se = -1) => PBAD.out (pipOK_bad hlt hh (by rw [h2]; decide)))
      have RG := hide (seIx_two sl ll[k].se)
      have LBk := hide (LB.out k)
      have LKk := hide (LKK.out k hlt)
      have FDk := hide (fun W hb => FD.out ll[k].se W hb)
      clear hat HO PBAD LB LKK FD PNM
      generalize ll[k] = x at *
      have bw2 : bL < wr.heap.size := HW.out.r2.1.2.2
      have n2 : ¬ (w.heap.size = bL) := by omega
      by_cases hkd : x.kd = 1
      · have q1 : (x.kd != 1) = false := by simpa using hkd
        obtain ⟨lk1, lk2⟩ := LKk.out hkd
        replace hkd := hide hkd
        rcases RG.out with hj | ⟨j, hj, hjl⟩
        · rw [hj] at FDk
          obtain ⟨e1, e2⟩ := BAD.out hkd.out hj
          rw [e1, e2]
          clear SK PUT OK BAD RG LBk LKk hj e1 e2
          have HC4 := hide c4
          go_wp2_with fail
          refine (FDk.out _ HW.out.1).mono ?_
          rintro e w3 ⟨rfl, hb⟩
          have c4' := (hb.cell (p := ⟨b, off + k * 11 + 4, none⟩) hbl).trans HC4.out
          have hbl3 : b < w3.heap.size := Nat.lt_of_lt_of_le hbl hb.size
          have XN := hide (HW.out.to hb)
          clear hb hr HW c0 c1 c2 c3 c4 c5 c6 c7 c8 c9 ca HC4
          have hr := XN.out.r2
          clear FDk
          go_wp2
          go_ret2
          exact ⟨XN.out.1, none, 0, rfl, ItmSl.nil _ _⟩
        · rw [hj] at FDk
          have HC4 := hide c4
          go_wp2_with fail
          refine (FDk.out _ HW.out.1).mono ?_
          rintro e w3 ⟨rfl, hb⟩
          have c4' := (hb.cell (p := ⟨b, off + k * 11 + 4, none⟩) hbl).trans HC4.out
          have hbl3 : b < w3.heap.size := Nat.lt_of_lt_of_le hbl hb.size
          have XN := hide (HW.out.to hb)
          clear hb hr HW c0 c1 c2 c3 c4 c5 c6 c7 c8 c9 ca HC4
          have hr := XN.out.r2
          have HROW := hide (PUT.out j hkd.out hj)
          have OKj := hide (OK.out (fun _ => by rw [hj]; omega))
          have fk : (mkRow sl.length (lenV sl ll k))[j]? = some (.int .i64 (lenA sl (ll.take k) j)) := mkRow_at _ _ hjl
          have lb := LBk.out j
          have dj : decide ((j : Int) < 0) = false := decide_eq_false (by omega)
          have j1 : (0 : Int) ≤ (j : Int) := by omega
          have j2 : (j : Int) < (sl.length : Int) := by omega
          clear SK PUT OK BAD RG LBk LKk FDk hj
          generalize lenA sl (ll.take k) j = a at *
          have q3 : IntKind.i64.wrap (a + x.le) = a + x.le := IntWalk.i64_in _ (by omega)
          clear lb lk1 lk2
          generalize mkRow sl.length (lenV sl ll k) = R0 at *
          have NE : Nonempty (OwnW w3 []) := ⟨⟨_, Own.start w3⟩⟩
          have C1 := fun z : OwnW w3 [] => (XN.out.to z.own.1).r2
          have C2 := fun z : OwnW w3 [] => (z.own.1.cell (p := ⟨b, off + k * 11 + 4, none⟩) hbl3).trans c4'
          go_upto_region 11 with (fail)
          refine wp_region_own_tail (w := w3) (L := []) 14 (by kernel_rfl) (by kernel_rfl) (Own.start w3) ?_
          simp only [List.take_succ_cons, List.take_zero, List.drop_succ_cons, List.drop_zero]
          repeat (go_big_quiet_step (fail))
          refine wpQuiet_nil ?_
          rintro W3 ⟨⟨W3, HX⟩, rfl⟩
          have HX2 := XN.out.to HX.1
          have hr3 := HX2.r2
          have HY : Hid (Own w (W3.setCell ⟨bL, j, none⟩ (.int .i64 (a + x.le))) [(bL, 3, mkRow sl.length (lenV sl ll (k + 1))), (w.heap.size, 25, #[.slice A nl.length cA, .slice (some ⟨b, off, none⟩) ll.length cB])]) := hide (by
            rw [← HROW.out]
            exact HX2.set0 (by omega) (by simp; omega) j _)
          clear HX HX2 NE C1 C2 HROW hr XN
          go_wp2
          go_roundw
          case rel => exact ⟨k + 1, by omega, by go_num, HY, OKj⟩
          case measure => simp [intOf]; omega
      · have q1 : (x.kd != 1) = true := by simpa using hkd
        have q2 : (x.kd == 1) = false := by simpa using hkd
        have e := SK.out hkd
        have OKk := hide (OK.out (fun hh => absurd hh hkd))
        clear SK PUT OK BAD RG LBk LKk FDk
        go_wp2
        go_roundw
        case rel => exact ⟨k + 1, by omega, by go_num, hide (by rw [e]; exact HW.out), OKk⟩
        case measure => simp [intOf]; omega
    · obtain rfl : k = ll.length := by omega
      have d1 : decide (ll.length < ll.length) = false := decide_eq_false hlt
      obtain ⟨rfl, rfl⟩ := PYES.out (pipOK_all fun i hi => HO.out i hi hi)
      have LBE : Hid (∀ i, 0 ≤ lenA sl ll i ∧ lenA sl ll i ≤ 6710886400) := hide (fun i => by
        have := LB.out ll.length i
        rwa [List.take_length] at this)
      rw [lenV_end] at HW
      clear HO PBAD PYES LB LKK FD
      generalize lenA sl ll = f at *
      go_wp2
      obtain ⟨wa, rfl⟩ : ∃ z, z = wr := ⟨_, rfl⟩
      obtain ⟨i0, hi0, hz0, hz1, hz2⟩ := info_parts itm_info
      have XH := hide (And.intro HW.out (World.ownsRow_nil wa w.heap.size 43 3))
      clear HW d1
      go_loopw [9, 10] (fun v11 v56 wr => ∃ k : Nat, k ≤ sl.length ∧ v56 = .int .i64 (k : Int) ∧ Hid (Own w wr [(bL, 3, mkRow sl.length (fun i => .int .i64 (f i))), (w.heap.size, 25, #[.slice A nl.length cA, .slice B ll.length cB])] ∧ wr.ownsRow w.heap.size 43 3 v11 (pipN sl f k).length (flatItm (pipN sl f k)))) (fun _ v _ => sl.length - (intOf v).toNat)
      case atStart => exact ⟨0, by omega, rfl, XH⟩
      case round =>
        clear XH
        obtain ⟨k, hk, rfl, HY⟩ := hrel
        by_cases hlt : k < sl.length
        · have d1 : decide (k < sl.length) = true := decide_eq_true hlt
          have d2 : (0 : Int) ≤ (k : Int) := by omega
          have d3 : (k : Int) < (sl.length : Int) := by omega
          obtain ⟨b, off, rfl, hbl, hat⟩ := HS.out.2 (by omega)
          have CE0 := hide (fun W (hW : Below w.heap.size w W) => (hat k hlt).below hW hbl)
          obtain ⟨c0, c1, c2, c3, c4⟩ := CE0.out _ HY.out.1.1
          have PY := hide (fun (hh : 0 < f k) => pipN_yes (f := f) hlt hh)
          have PN := hide (fun (hh : ¬ 0 < f k) => pipN_no (f := f) hlt hh)
          have LEN := pipN_len sl f k
          have fk : (mkRow sl.length (fun i => Value.int .i64 (f i)))[k]? = some (.int .i64 (f k)) := mkRow_at _ _ hlt
          have lb := LBE.out k
          clear hat
          generalize sl[k] = s at *
          generalize f k = fv at *
          obtain ⟨R0, hR⟩ : ∃ R0, R0 = mkRow sl.length (fun i => Value.int .i64 (f i)) := ⟨_, rfl⟩
          obtain ⟨P, hP⟩ : ∃ P, P = pipN sl f k := ⟨_, rfl⟩
          rw [← hR] at HY fk
          rw [← hP] at HY PY PN LEN
          replace hR := hide hR
          clear hP
          have hr := HY.out.1.r2
          have XN := hide HY.out.1
          have RN := hide HY.out.2
          have hbw := Nat.lt_of_lt_of_le hbl HY.out.1.1.size
          by_cases hf : 0 < fv
          · have q1 : decide (0 < fv) = true := decide_eq_true hf
            have EN := hide (PY.out hf)
            have CE := hide (fun W => rceil1000 fv W (by omega))
            have f1 : P.length + 1 ≤ maxLen := by unfold maxLen; omega
            have f2 : (P.length + 1) * 32 ≤ 140737488355328 := by omega
            clear PY PN lb hf
            generalize (fv + 999) / 1000 = am at *
            have CX : Hid (∀ W, Own w W [(bL, 3, R0), (w.heap.size, 25, #[.slice A nl.length cA, .slice B ll.length cB])] → W.cell? ⟨b, off + k * 5, none⟩ = some (.string s.nm) ∧ W.cell? ⟨b, off + k * 5 + 2, none⟩ = some (.int .i64 s.pr) ∧ W.cell? ⟨bL, k, none⟩ = some (.int .i64 fv)) := hide (fun W hW => ⟨(CE0.out W hW.1).c0, (CE0.out W hW.1).c2, (hW.r2.1.1 k).trans fk⟩)
            obtain ⟨-, -, ck'⟩ := CX.out _ XN.out
            have m0 : ¬ wr.heap.size = b := by omega
            have m1 : ¬ wr.heap.size = bL := by have := hr.1.2.2; omega
            have m3 : bL < wr.heap.size := hr.1.2.2
            clear c1 c3 c4 CE0
            go_upto_region 17 with (fail)
            have RO := hide ((row_drew RN.out).alloc (.cells #[.string s.nm, .int .i64 am, .int .i64 s.pr] 43))
            have RD : Hid (Reads (wr.drew.alloc (.cells #[.string s.nm, .int .i64 am, .int .i64 s.pr] 43)) (wr.heap.size + 1) 3 (some ⟨wr.heap.size, 0, none⟩) 1 [.string s.nm, .int .i64 am, .int .i64 s.pr]) := hide ⟨rfl, fun _ => ⟨_, rfl, Nat.lt_succ_self _, World.news_of_block (cs := #[.string s.nm, .int .i64 am, .int .i64 s.pr]) (t := 43) (fr := (0, 0)) (heap_alloc_new wr.drew _)⟩⟩
            have f4 : ∀ y ∈ [Value.string s.nm, .int .i64 am, .int .i64 s.pr], y.oneCell' = true := by simp [Value.oneCell']
            have X4 := hide ((XN.out.drew.alloc #[.string s.nm, .int .i64 am, .int .i64 s.pr] 43).tail)
            have f3 : w.heap.size ≤ (wr.drew.alloc (.cells #[.string s.nm, .int .i64 am, .int .i64 s.pr] 43)).heap.size := X4.out.1.size
            have TY : Hid (∀ y ∈ [(bL, 3, R0), (w.heap.size, 25, #[.slice A nl.length cA, .slice B ll.length cB])], (43 : TypeId) ≠ (y : Nat × TypeId × Array Value).2.1) := hide (by
              intro y hy
              simp only [List.mem_cons, List.not_mem_nil, or_false] at hy
              rcases hy with rfl | rfl
              · exact (show (43 : Nat) ≠ 3 by decide)
              · exact (show (43 : Nat) ≠ 25 by decide))
            have GR := hide (fun (w4 : World) (v4 : Value) (hown4 : w4.ownsRow w.heap.size 43 3 v4 (P.length + 1) (flatItm P ++ [.string s.nm, .int .i64 am, .int .i64 s.pr])) (hg : (wr.drew.alloc (.cells #[.string s.nm, .int .i64 am, .int .i64 s.pr] 43)).grownBy w4 u9.ownBlock) => And.intro (Own.grown X4.out RO.out hg TY.out) hown4)
            have EL : Hid ((P ++ ([⟨s.nm, am, s.pr⟩] : List Itm)).length = P.length + 1) := hide (by simp)
            clear hr XN RN X4 TY
            go_region_held3 (fun w' => w'.cell? ⟨b, off + k * 5, none⟩ = some (.string s.nm) ∧ w'.cell? ⟨b, off + k * 5 + 2, none⟩ = some (.int .i64 s.pr) ∧ w'.cell? ⟨bL, k, none⟩ = some (.int .i64 fv)) (go_keep)
              (first
                | ((with_reducible refine (CE.out _).mono ?_); rintro _ _ ⟨rfl, rfl⟩)
                | (refine step_append_any (w := wr.drew.alloc (.cells #[.string s.nm, .int .i64 am, .int .i64 s.pr] 43)) (by rfl) _ _ _ (by rfl) w.heap.size 43 i0 _ 3 32 Tryz.underlying29 hi0 hz0 hz1 hz2 rfl (by omega) _ P.length (flatItm P) (by rfl) RO.out (wr.heap.size + 1) _ _ _ [.string s.nm, .int .i64 am, .int .i64 s.pr] (by rfl) RD.out f4 f1 f2 f3 ?_; intro v4 w4 hown4 hgrow hor; have HY := hide (GR.out _ _ hown4 hgrow); obtain ⟨d0, d1, d2⟩ := CX.out _ HY.out.1; clear hown4 hgrow hor))
            have HZ : Hid (Own w w4 [(bL, 3, R0), (w.heap.size, 25, #[.slice A nl.length cA, .slice B ll.length cB])] ∧ w4.ownsRow w.heap.size 43 3 v4 (pipN sl f (k + 1)).length (flatItm (pipN sl f (k + 1)))) := hide ⟨HY.out.1, by rw [EN.out, flatItm_append, EL.out]; exact HY.out.2⟩
            clear HY d0 d1 d2 c0 c2 ck' EN
            go_wp2
            go_roundw
            case rel => exact ⟨k + 1, by omega, by go_num, by rw [← hR.out]; exact HZ⟩
            case measure => simp [intOf]; omega
          · have q1 : decide (0 < fv) = false := decide_eq_false hf
            have EN := PN.out hf
            clear PY PN lb
            go_wp2
            go_roundw
            case rel => exact ⟨k + 1, by omega, by go_num, hide (by rw [EN, ← hR.out]; exact ⟨XN.out, RN.out⟩)⟩
            case measure => simp [intOf]; omega
        · obtain rfl : k = sl.length := by omega
          have d1 : decide (sl.length < sl.length) = false := decide_eq_false hlt
          have nm := PNM.out sl.length
          obtain ⟨A4, c4, e4, IS⟩ := ItmSl.of_row HY.out.2 (fun i hi => nm _ (List.getElem_mem hi))
          have e4 : _ = Value.slice A4 (pipN sl f sl.length).length c4 := e4
          subst e4
          have HP := hide (And.intro HY.out.1.1 IS)
          clear HY IS nm PNM
          go_wp2
          go_ret2
          exact ⟨HP.out.1, A4, c4, rfl, HP.out.2⟩
end Go.Proofs.YtdcdfjinbieblaaGreatDoor
