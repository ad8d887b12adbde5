/- Parts of one proof, joined: The program's Valid of networks: what it returns; nothing that was there is turned. (Printed by gen_nwv.py.). The program's curve and valid of sections: what each returns; nothing that was there is turned. (Printed by gen_ca.py.). The reference's IsName: it reports whether a string is a name, for every string; it leaves the world as it is. Small functions of the reference for networks (sewershedref26): level, position, within, shape, curve: what each returns; nothing that was there is turned. (Printed by gen_nrf.py.). -/
import Derived.Test.YtdcdfjinbieblaaGreatDoorPkCostsPipes20
import Derived.Test.YtdcdfjinbieblaaGreatDoorPkCostsPipes19
import Derived.Test.YtdcdfjinbieblaaGreatDoorPkCostsPipes14
import Derived.Test.YtdcdfjinbieblaaGreatDoorPkCostsPipes18
namespace Go.Proofs.YtdcdfjinbieblaaGreatDoor
open Go Go.RowKit

theorem nodOk_no {nl : List Nod} {k : Nat} (hk : k < nl.length) (h : nodB nl[k] = false ∨ (ndIx nl nl[k].nm == (k : Int)) = false) : nodOk nl k = false := by
  rw [nodOk_at hk]
  rcases h with h | h
  · rw [h]; rfl
  · have : ¬ ndIx nl nl[k].nm = (k : Int) := by simpa using h
    rw [decide_eq_false this, Bool.and_false]
theorem nodOk_yes {nl : List Nod} {k : Nat} (hk : k < nl.length) (h : nodB nl[k] = true) (h2 : (ndIx nl nl[k].nm == (k : Int)) = true) : nodOk nl k = true := by
  rw [nodOk_at hk, h, decide_eq_true (by simpa using h2)]; rfl
theorem lnkOk_no {nl : List Nod} {ll : List Lnk} {k : Nat} (hk : k < ll.length) (h : lnkB ll[k] = false ∨ (lkIx ll ll[k].nm == (k : Int)) = false ∨ ndIx nl ll[k].tn = -1 ∨ ndIx nl ll[k].fr = -1) : lnkOk nl ll k = false := by
  rw [lnkOk_eq hk]
  rcases h with h | h | h | h
  · rw [h]; rfl
  · have : ¬ lkIx ll ll[k].nm = (k : Int) := by simpa using h
    rw [decide_eq_false this, Bool.and_false]; rfl
  · rw [h, decide_eq_false (show ¬ (0 : Int) ≤ -1 by omega), Bool.and_false]; rfl
  · rw [h, ndP_neg, Bool.and_false]
theorem lnkOk_kd {nl : List Nod} {ll : List Lnk} {k j : Nat} (hk : k < ll.length) (hj : j < nl.length) (h : (nl[j].kd == 3) = true) (hf : ndIx nl ll[k].fr = (j : Int)) : lnkOk nl ll k = false := by
  have : nl[j].kd = 3 := by simpa using h
  rw [lnkOk_eq hk, hf, ndP_at hj, decide_eq_true this]; simp
theorem lnkOk_yes {nl : List Nod} {ll : List Lnk} {k j i : Nat} (hk : k < ll.length) (hj : j < nl.length) (h0 : lnkB ll[k] = true) (h1 : (lkIx ll ll[k].nm == (k : Int)) = true) (h2 : ndIx nl ll[k].tn = (i : Int)) (hf : ndIx nl ll[k].fr = (j : Int)) (h : (nl[j].kd == 3) = false) : lnkOk nl ll k = true := by
  have : ¬ nl[j].kd = 3 := by simpa using h
  rw [lnkOk_eq hk, hf, ndP_at hj, decide_eq_false this, h0, h2, decide_eq_true (by simpa using h1), decide_eq_true (show (0 : Int) ≤ (i : Int) by omega)]; rfl
set_option maxRecDepth 100000 in
set_option maxHeartbeats 8000000 in
theorem nwvalid_raw (nl : List Nod) (A : Option Addr) (cA : Nat) (ll : List Lnk) (B : Option Addr) (cB : Nat) (w : World) (h : NodSl w A nl ∧ LnkSl w B ll) : Calls Tryz.prog 24 #[.agg #[.slice A nl.length cA, .slice B ll.length cB]] w (RetW (.bool (vNet nl ll)) w) := by
  have hlen1 : nl.length ≤ 9223372036854775807 := by have := h.1.1.1; unfold maxLen at this; omega
  have hlen2 : ll.length ≤ 9223372036854775807 := by have := h.2.1.1; unfold maxLen at this; omega
  have HN := hide h.1
  have HL := hide h.2
  have RN := hide (fun k (hk : k < nl.length) W (hb : Below w.heap.size w W) => nwnode_any nl[k] W ((h.1.below hb).1.2 k hk).1 ((h.1.below hb).1.2 k hk).2)
  have RL := hide (fun k (hk : k < ll.length) W (hb : Below w.heap.size w W) => nwrl_any ll[k] W ((h.2.below hb).1.2 k hk).1 ((h.2.below hb).1.2 k hk).2)
  have NI : Hid (∀ (s : ByteArray) (W : World), Below w.heap.size w W → Calls Tryz.prog 51 #[.agg #[.slice A nl.length cA, .slice B ll.length cB], .string s] W (RetW (.int .i64 (ndIx nl s)) W)) := hide (fun s W (hb : Below w.heap.size w W) => nodeix_any ⟨nl, A, cA, ll, B, cB⟩ s W (h.1.below hb))
  have LI : Hid (∀ (s : ByteArray) (W : World), Below w.heap.size w W → Calls Tryz.prog 53 #[.agg #[.slice A nl.length cA, .slice B ll.length cB], .string s] W (RetW (.int .i64 (lkIx ll s)) W)) := hide (fun s W (hb : Below w.heap.size w W) => linkix_any ⟨nl, A, cA, ll, B, cB⟩ s W (h.2.below hb))
  unfold RetW at RN RL NI LI
  have VB1 := hide (fun h => vNet_many (nl := nl) (ll := ll) h)
  have VB2 := hide (fun k hk h => vNet_nod (nl := nl) (ll := ll) (k := k) hk h)
  have VB3 := hide (fun k hk h => vNet_lnk (nl := nl) (ll := ll) (k := k) hk h)
  have VAL := hide (fun h1 h2 h3 h4 => vNet_all (nl := nl) (ll := ll) h1 h2 h3 h4)
  have X := (Own.start w).alloc #[.slice A nl.length cA, .slice B ll.length cB] 25
  have hr := X.r1
  have XB := hide X
  clear X h
  generalize vNet nl ll = v at *
  by_cases k1 : 300 < nl.length
  · have g0 : decide (300 < (nl.length : Int)) = true := decide_eq_true (by omega)
    have g1 : decide (300 < nl.length) = true := decide_eq_true (by omega)
    have E := hide (VB1.out (.inl k1))
    go_enter Tryz.func24, Tryz.ntmps24
    go_wp2
    go_ret
    exact ⟨ret_bool E.out.symm, XB.out.1⟩
  have g0 : decide (300 < (nl.length : Int)) = false := decide_eq_false (by omega)
  have g1 : decide (300 < nl.length) = false := decide_eq_false (by omega)
  by_cases k2 : 400 < ll.length
  · have g2 : decide (400 < (ll.length : Int)) = true := decide_eq_true (by omega)
    have g3 : decide (400 < ll.length) = true := decide_eq_true (by omega)
    have E := hide (VB1.out (.inr k2))
    go_enter Tryz.func24, Tryz.ntmps24
    go_wp2
    go_ret
    exact ⟨ret_bool E.out.symm, XB.out.1⟩
  have g2 : decide (400 < (ll.length : Int)) = false := decide_eq_false (by omega)
  have g3 : decide (400 < ll.length) = false := decide_eq_false (by omega)
  go_enter Tryz.func24, Tryz.ntmps24
  go_wp2
  go_loopw [21] (fun v wr => ∃ k : Nat, k ≤ nl.length ∧ v = .int .i64 (k : Int) ∧ Hid (Own w wr [(w.heap.size, 25, #[.slice A nl.length cA, .slice B ll.length cB])]) ∧ Hid (∀ i, i < k → nodOk nl i = true)) (fun v _ => nl.length - (intOf v).toNat)
  case atStart => exact ⟨0, by omega, rfl, XB, hide (fun _ h => by omega)⟩
  case round =>
    clear hr XB g0 g1 g2 g3
    obtain ⟨k, hk, rfl, HW, HO⟩ := hrel
    have hr := HW.out.r1
    by_cases hlt : k < nl.length
    · obtain ⟨b, off, rfl, hbl, hat⟩ := (HN.out.below HW.out.1).2 (by omega)
      have cs := hat k hlt
      obtain ⟨c0, c1, c2, c3, c4, c5, c6, c7, c8⟩ := cs
      have NO := hide (fun hh => VB2.out k hlt (nodOk_no hlt hh))
      have OK := hide (fun (h1 : nodB nl[k] = true) (h2 : (ndIx nl nl[k].nm == (k : Int)) = true) i (hik : i < k + 1) => (show nodOk nl i = true by
        by_cases e : i = k
        · subst e; exact nodOk_yes hlt h1 h2
        · exact HO.out i (by omega)))
      have RNk := hide (fun W hb => RN.out k hlt W hb)
      have NIk := hide (fun W hb => NI.out nl[k].nm W hb)
      have d1 : decide (k < nl.length) = true := decide_eq_true hlt
      have d2 : (0 : Int) ≤ (k : Int) := by omega
      have d3 : (k : Int) < (nl.length : Int) := by omega
      clear hat RN RL NI LI VB1 VB2 VB3 VAL HO
      generalize nl[k] = x at *
      have XN := hide (HW.out.alloc #[.string x.nm, .int .i64 x.kd, .int .i64 x.x, .int .i64 x.y, .int .i64 x.iv, .int .i64 x.gr, .slice x.sh.A x.sh.l.length x.sh.c, .bool x.pro, .int .i64 x.re] 71)
      have hr2 := XN.out.r2
      clear hr
      generalize ndIx nl x.nm = i at *
      generalize nodB x = c at *
      cases c with
      | false =>
        have E := hide (NO.out (.inl rfl))
        clear NO OK NIk
        go_wp2_with fail
        refine (RNk.out _ XN.out.1).mono ?_
        rintro e w2 ⟨rfl, hb⟩
        replace XN := hide (XN.out.to hb)
        clear hb hr2
        have hr2 := XN.out.r2
        go_wp2
        go_ret
        exact ⟨ret_bool E.out.symm, XN.out.1⟩
      | true =>
        go_wp2_with fail
        refine (RNk.out _ XN.out.1).mono ?_
        rintro e w2 ⟨rfl, hb⟩
        replace XN := hide (XN.out.to hb)
        clear hb hr2
        have hr2 := XN.out.r2
        go_wp2_with fail
        refine (NIk.out _ XN.out.1).mono ?_
        rintro e w3 ⟨rfl, hb⟩
        replace XN := hide (XN.out.to hb)
        clear hb hr2
        have hr2 := XN.out.r2
        cases hq : (i == (k : Int)) with
        | false =>
          have E := hide (NO.out (.inr hq))
          clear NO OK
          go_wp2
          go_ret
          exact ⟨ret_bool E.out.symm, XN.out.1⟩
        | true =>
          have E := hide (OK.out (by trivial) hq)
          clear NO OK
          go_wp2
          go_roundw
          case rel => exact ⟨k + 1, by omega, by go_num, hide XN.out.tail, E⟩
          case measure => simp [intOf]; omega
    · have d1 : decide (k < nl.length) = false := decide_eq_false hlt
      have ALL1 := hide (fun i (hi : i < nl.length) => HO.out i (by omega))
      clear HO RN
      go_wp2
      obtain ⟨wa, rfl⟩ : ∃ z, z = wr := ⟨_, rfl⟩
      go_loopw [41] (fun v wr => ∃ k : Nat, k ≤ ll.length ∧ v = .int .i64 (k : Int) ∧ Hid (Own w wr [(w.heap.size, 25, #[.slice A nl.length cA, .slice B ll.length cB])]) ∧ Hid (∀ i, i < k → lnkOk nl ll i = true)) (fun v _ => ll.length - (intOf v).toNat)
      case atStart => exact ⟨0, by omega, rfl, HW, hide (fun _ h => by omega)⟩
      case round =>
        clear hr HW hlt d1
        obtain ⟨m, hm, rfl, HW, HO⟩ := hrel
        have hr := HW.out.r1
        by_cases hlt : m < ll.length
        · obtain ⟨b, off, rfl, hbl, hat⟩ := (HL.out.below HW.out.1).2 (by omega)
          have cs := hat m hlt
          obtain ⟨c0, c1, c2, c3, c4, c5, c6, c7, c8, c9, ca⟩ := cs
          have NO := hide (fun hh => VB3.out m hlt (lnkOk_no hlt hh))
          have NO3 := hide (fun j (hj : j < nl.length) hh hf => VB3.out m hlt (lnkOk_kd hlt hj hh hf))
          have OK := hide (fun j i2 (hj : j < nl.length) h0 h1 h2 hf hh i (hik : i < m + 1) => (show lnkOk nl ll i = true by
            by_cases e : i = m
            · subst e; exact lnkOk_yes (i := i2) hlt hj h0 h1 h2 hf hh
            · exact HO.out i (by omega)))
          have RLk := hide (fun W hb => RL.out m hlt W hb)
          have LIk := hide (fun W hb => LI.out ll[m].nm W hb)
          have FRk := hide (fun W hb => NI.out ll[m].fr W hb)
          have TOk := hide (fun W hb => NI.out ll[m].tn W hb)
          have RF := ndIx_range nl ll[m].fr
          have RT := ndIx_range nl ll[m].tn
          replace RF := hide RF
          replace RT := hide RT
          have d1 : decide (m < ll.length) = true := decide_eq_true hlt
          have d2 : (0 : Int) ≤ (m : Int) := by omega
          have d3 : (m : Int) < (ll.length : Int) := by omega
          clear hat RL NI LI VB1 VB2 VB3 VAL HO
          generalize ll[m] = x at *
          have XN := hide (HW.out.alloc #[.string x.nm, .string x.fr, .string x.tn, .int .i64 x.kd, .int .i64 x.le, .int .i64 x.up, .int .i64 x.dn, .string x.se, .int .i64 x.wi, .int .i64 x.he, .slice x.cu.A x.cu.l.length x.cu.c] 50)
          have hr2 := XN.out.r2
          clear hr
          generalize lkIx ll x.nm = i at *
          generalize ndIx nl x.fr = fi at *
          generalize ndIx nl x.tn = ti at *
          generalize lnkB x = c at *
          cases c with
          | false =>
            have E := hide (NO.out (.inl rfl))
            clear NO OK NO3 LIk FRk TOk RF RT
            go_wp2_with fail
            refine (RLk.out _ XN.out.1).mono ?_
            rintro e w2 ⟨rfl, hb⟩
            replace XN := hide (XN.out.to hb)
            clear hb hr2
            have hr2 := XN.out.r2
            go_wp2
            go_ret
            exact ⟨ret_bool E.out.symm, XN.out.1⟩
          | true =>
            go_wp2_with fail
            refine (RLk.out _ XN.out.1).mono ?_
            rintro e w2 ⟨rfl, hb⟩
            replace XN := hide (XN.out.to hb)
            clear hb hr2
            have hr2 := XN.out.r2
            go_wp2_with fail
            refine (LIk.out _ XN.out.1).mono ?_
            rintro e w3 ⟨rfl, hb⟩
            replace XN := hide (XN.out.to hb)
            clear hb hr2
            have hr2 := XN.out.r2
            cases hq : (i == (m : Int)) with
            | false =>
              have E := hide (NO.out (.inr (.inl hq)))
              clear NO OK NO3 FRk TOk RF RT
              go_wp2
              go_ret
              exact ⟨ret_bool E.out.symm, XN.out.1⟩
            | true =>
              go_wp2_with fail
              refine (FRk.out _ XN.out.1).mono ?_
              rintro e w4 ⟨rfl, hb⟩
              replace XN := hide (XN.out.to hb)
              clear hb hr2
              have hr2 := XN.out.r2
              rcases RF.out with rfl | ⟨j, rfl, hj⟩
              · have E := hide (NO.out (.inr (.inr (.inr rfl))))
                clear NO OK NO3 FRk TOk RF RT
                go_wp2
                go_ret
                exact ⟨ret_bool E.out.symm, XN.out.1⟩
              · have dj : decide ((j : Int) < 0) = false := decide_eq_false (by omega)
                go_wp2_with fail
                refine (TOk.out _ XN.out.1).mono ?_
                rintro e w5 ⟨rfl, hb⟩
                replace XN := hide (XN.out.to hb)
                clear hb hr2
                have hr2 := XN.out.r2
                rcases RT.out with rfl | ⟨j2, rfl, hj2⟩
                · have E := hide (NO.out (.inr (.inr (.inl rfl))))
                  clear NO OK NO3 FRk TOk RF RT
                  go_wp2
                  go_ret
                  exact ⟨ret_bool E.out.symm, XN.out.1⟩
                · have dj2 : decide ((j2 : Int) < 0) = false := decide_eq_false (by omega)
                  obtain ⟨b2, off2, rfl, hbl2, hat2⟩ := (HN.out.below XN.out.1).2 (by omega)
                  have e1 := (hat2 j hj).c1
                  have d4 : (0 : Int) ≤ (j : Int) := by omega
                  have d5 : (j : Int) < (nl.length : Int) := by omega
                  have NOj := hide (fun hh => NO3.out j hj hh rfl)
                  have OKj := hide (fun hh => OK.out j j2 hj (by trivial) hq rfl rfl hh)
                  clear hat2 NO OK NO3 RF RT FRk TOk
                  generalize nl[j] = y at *
                  cases hy : (y.kd == 3) with
                  | true =>
                    have E := hide (NOj.out hy)
                    clear NOj OKj
                    go_wp2
                    go_ret
                    exact ⟨ret_bool E.out.symm, XN.out.1⟩
                  | false =>
                    have E := hide (OKj.out hy)
                    clear NOj OKj
                    go_wp2
                    go_roundw
                    case rel => exact ⟨m + 1, by omega, by go_num, hide XN.out.tail, E⟩
                    case measure => simp [intOf]; omega
        · have d1 : decide (m < ll.length) = false := decide_eq_false hlt
          have E := hide (VAL.out (by omega) (by omega) ALL1.out (fun i hi => HO.out i (by omega)))
          go_wp2
          go_ret
          exact ⟨ret_bool E.out.symm, HW.out.1⟩
set_option maxRecDepth 100000 in
theorem nwvalid_any (n : Net) (w : World) (h : NetSl w n) : Calls Tryz.prog 24 #[n.val] w (RetW (.bool (vNet n.nl n.ll)) w) := nwvalid_raw n.nl n.A n.c n.ll n.B n.c' w h
end Go.Proofs.YtdcdfjinbieblaaGreatDoor

namespace Go.Proofs.YtdcdfjinbieblaaGreatDoor
open Go Go.RowKit

set_option maxRecDepth 100000 in
set_option maxHeartbeats 2000000 in
theorem cacurve_any (t : List Knt) (A : Option Addr) (cap : Nat) (d most : Int) (w : World) (hl : KnSl w A t) : Calls Tryz.prog 97 #[.slice A t.length cap, .int .i64 d, .int .i64 most] w (RetW (.bool (shpB t d most)) w) := by
  have V := hide (fun W h => tabv_any t A cap W h)
  unfold RetW at V
  have HL := hide hl
  cases hv : vKn t with
  | false =>
    rw [hv] at V
    have E : Hid (shpB t d most = false) := hide (by unfold shpB; rw [hv]; rfl)
    clear hl hv
    go_enter Tryz.func97, Tryz.ntmps97
    go_wp2_with fail
    refine (V.out _ HL.out).mono ?_
    rintro e w' ⟨rfl, hb⟩
    go_wp2
    go_ret
    exact ⟨ret_bool E.out.symm, hb⟩
  | true =>
    rw [hv] at V
    obtain ⟨n1, n2⟩ := (vKn_iff.1 hv).1
    obtain ⟨b, off, rfl, hbl, hat⟩ := hl.2 (by omega)
    obtain ⟨j, hj⟩ : ∃ j, t.length = j + 1 := ⟨t.length - 1, by omega⟩
    obtain ⟨a0, a1⟩ := hat 0 (by omega)
    obtain ⟨b0, b1⟩ := hat j (by omega)
    have e0 : t.getD 0 ⟨0, 0⟩ = t[0] := by simp [List.getD, List.getElem?_eq_getElem (show 0 < t.length by omega)]
    have e1 : t.getD (t.length - 1) ⟨0, 0⟩ = t[j] := by
      have : t.length - 1 = j := by omega
      rw [this]
      simp [List.getD, List.getElem?_eq_getElem (show j < t.length by omega)]
    have EV : Hid (shpB t d most = ((decide (t[0].x = 0) && decide (t[0].y = 0)) && (decide (t[j].x = d) && decide (t[j].y ≤ most)))) := hide (by unfold shpB; rw [hv, e0, e1]; rfl)
    have g0 : IntKind.i64.wrap ((t.length : Int) - 1) = (j : Int) := by rw [IntWalk.i64_in _ (by omega)]; omega
    have g1 : (0 : Int) ≤ (j : Int) := by omega
    have g2 : (j : Int) < (t.length : Int) := by omega
    have g3 : (0 : Int) < (t.length : Int) := by omega
    simp only [Nat.zero_mul, Nat.add_zero] at a0 a1
    clear hat hl hv e0 e1
    generalize shpB t d most = v at *
    generalize t[0] = p at *
    generalize t[j] = q at *
    clear hj
    have ways : ((⟨p.x, p.y⟩ : Knt) = ⟨0, 0⟩ ∧ q.x = d) ∨ ((⟨p.x, p.y⟩ : Knt) = ⟨0, 0⟩ ∧ (q.x == d) = false ∧ v = false) ∨ ((⟨p.x, p.y⟩ : Knt) ≠ ⟨0, 0⟩ ∧ v = false) := by
      rw [EV.out]
      by_cases h1 : p.x = 0 <;> by_cases h2 : p.y = 0 <;> by_cases h3 : q.x = d <;> simp [h1, h2, h3]
    have C1 : ∀ W, Below w.heap.size w W → W.cell? ⟨b, off, none⟩ = some (.int .i64 p.x) := fun W h => (h.cell (p := ⟨b, off, none⟩) hbl).trans a0
    have C2 : ∀ W, Below w.heap.size w W → W.cell? ⟨b, off + 1, none⟩ = some (.int .i64 p.y) := fun W h => (h.cell (p := ⟨b, off + 1, none⟩) hbl).trans a1
    have C3 : ∀ W, Below w.heap.size w W → W.cell? ⟨b, off + j * 2, none⟩ = some (.int .i64 q.x) := fun W h => (h.cell (p := ⟨b, off + j * 2, none⟩) hbl).trans b0
    have C4 : ∀ W, Below w.heap.size w W → W.cell? ⟨b, off + j * 2 + 1, none⟩ = some (.int .i64 q.y) := fun W h => (h.cell (p := ⟨b, off + j * 2 + 1, none⟩) hbl).trans b1
    replace C1 := hide C1
    replace C2 := hide C2
    replace C3 := hide C3
    replace C4 := hide C4
    clear a0 a1 b0 b1
    have STEP : ∀ (e : Ending) (w' : World), Below w.heap.size w w' → w'.cell? ⟨b, off, none⟩ = some (.int .i64 p.x) ∧ w'.cell? ⟨b, off + 1, none⟩ = some (.int .i64 p.y) ∧ w'.cell? ⟨b, off + j * 2, none⟩ = some (.int .i64 q.x) ∧ w'.cell? ⟨b, off + j * 2 + 1, none⟩ = some (.int .i64 q.y) := fun e w' h => ⟨C1.out w' h, C2.out w' h, C3.out w' h, C4.out w' h⟩
    replace STEP := hide STEP
    rcases ways with ⟨hp, hx⟩ | ⟨hp, hx, rfl⟩ | ⟨hp, rfl⟩
    · simp only [Knt.mk.injEq] at hp
      obtain ⟨hp1, hp2⟩ := hp
      rw [hp1, hp2] at STEP
      have EV2 : Hid (v = decide (q.y ≤ most)) := hide (by rw [EV.out, hp1, hp2, hx]; simp)
      clear EV C1 C2 C3 C4 hp1 hp2
      subst hx
      go_enter Tryz.func97, Tryz.ntmps97
      go_wp2_with fail
      refine (V.out _ HL.out).mono ?_
      rintro e w' ⟨rfl, hb⟩
      obtain ⟨c1, c2, c3, c4⟩ := STEP.out (.returned (.bool true)) w' hb
      have X := (Own.start w').alloc #[.int .i64 q.x, .int .i64 q.y] 121
      have hr := X.r1
      replace c1 := (X.1.cell (p := ⟨b, off, none⟩) (Nat.lt_of_lt_of_le hbl hb.size)).trans c1
      replace c2 := (X.1.cell (p := ⟨b, off + 1, none⟩) (Nat.lt_of_lt_of_le hbl hb.size)).trans c2
      have HB := hide (below_via hb hb.size X.1)
      clear hb X
      go_wp2
      go_ret
      exact ⟨ret_bool EV2.out.symm, HB.out⟩
    · simp only [Knt.mk.injEq] at hp
      obtain ⟨hp1, hp2⟩ := hp
      rw [hp1, hp2] at STEP
      clear EV C1 C2 C3 C4 hp1 hp2
      go_enter Tryz.func97, Tryz.ntmps97
      go_wp2_with fail
      refine (V.out _ HL.out).mono ?_
      rintro e w' ⟨rfl, hb⟩
      obtain ⟨c1, c2, c3, c4⟩ := STEP.out (.returned (.bool true)) w' hb
      have X := (Own.start w').alloc #[.int .i64 q.x, .int .i64 q.y] 121
      have hr := X.r1
      replace c1 := (X.1.cell (p := ⟨b, off, none⟩) (Nat.lt_of_lt_of_le hbl hb.size)).trans c1
      replace c2 := (X.1.cell (p := ⟨b, off + 1, none⟩) (Nat.lt_of_lt_of_le hbl hb.size)).trans c2
      have HB := hide (below_via hb hb.size X.1)
      clear hb X
      go_wp2
      go_ret
      exact ⟨ret_bool rfl, HB.out⟩
    · have hne : (p.x == 0 && p.y == 0) = false := by
        simp only [ne_eq, Knt.mk.injEq] at hp
        by_cases h1 : p.x = 0 <;> by_cases h2 : p.y = 0 <;> simp [h1, h2] at hp ⊢
      have hne2 : ((p.x == 0) = false) ∨ ((p.x == 0) = true ∧ (p.y == 0) = false) := by
        by_cases h1 : p.x = 0 <;> by_cases h2 : p.y = 0 <;> simp [h1, h2] at hne ⊢
      clear hp hne EV C1 C2 C3 C4
      rcases hne2 with u1 | ⟨u1, u2⟩
      all_goals
        go_enter Tryz.func97, Tryz.ntmps97
        go_wp2_with fail
        refine (V.out _ HL.out).mono ?_
        rintro e w' ⟨rfl, hb⟩
        obtain ⟨c1, c2, c3, c4⟩ := STEP.out (.returned (.bool true)) w' hb
        have X := (Own.start w').alloc #[.int .i64 q.x, .int .i64 q.y] 121
        have hr := X.r1
        replace c1 := (X.1.cell (p := ⟨b, off, none⟩) (Nat.lt_of_lt_of_le hbl hb.size)).trans c1
        replace c2 := (X.1.cell (p := ⟨b, off + 1, none⟩) (Nat.lt_of_lt_of_le hbl hb.size)).trans c2
        have HB := hide (below_via hb hb.size X.1)
        clear hb X
        go_wp2
        go_ret
        exact ⟨ret_bool rfl, HB.out⟩
set_option maxRecDepth 100000 in
set_option maxHeartbeats 4000000 in
theorem cavalid_raw (s : Sec) (w : World) (h1 : s.nm.size ≤ maxLen) (h2 : KnSl w s.ar.A s.ar.l) (h3 : KnSl w s.cv.A s.cv.l) : Calls Tryz.prog 54 #[.agg #[.string s.nm, .int .i64 s.he, .int .i64 s.pr, .slice s.ar.A s.ar.l.length s.ar.c, .slice s.cv.A s.cv.l.length s.cv.c]] w (RetW (.bool ((((((nameB s.nm.data.toList && decide (1 ≤ s.he)) && decide (s.he ≤ 32768)) && decide (0 ≤ s.pr)) && decide (s.pr ≤ 1073741824)) && shpB s.ar.l s.he 1073741824) && shpB s.cv.l s.he 1099511627776)) w) := by
  have NB := hide (fun W => isname_any s.nm W h1)
  have C1 := hide (fun W h => cacurve_any s.ar.l s.ar.A s.ar.c s.he 1073741824 W h)
  have C2 := hide (fun W h => cacurve_any s.cv.l s.cv.A s.cv.c s.he 1099511627776 W h)
  unfold RetW at C1 C2
  have H2 := hide h2
  have H3 := hide h3
  have X := (Own.start w).alloc #[.string s.nm, .int .i64 s.he, .int .i64 s.pr, .slice s.ar.A s.ar.l.length s.ar.c, .slice s.cv.A s.cv.l.length s.cv.c] 53
  have hr := X.r1
  replace X := hide X
  clear h1 h2 h3
  have WY : (nameB s.nm.data.toList = false ∧ ((((((nameB s.nm.data.toList && decide (1 ≤ s.he)) && decide (s.he ≤ 32768)) && decide (0 ≤ s.pr)) && decide (s.pr ≤ 1073741824)) && shpB s.ar.l s.he 1073741824) && shpB s.cv.l s.he 1099511627776) = false) ∨ (nameB s.nm.data.toList = true ∧ decide (1 ≤ s.he) = false ∧ ((((((nameB s.nm.data.toList && decide (1 ≤ s.he)) && decide (s.he ≤ 32768)) && decide (0 ≤ s.pr)) && decide (s.pr ≤ 1073741824)) && shpB s.ar.l s.he 1073741824) && shpB s.cv.l s.he 1099511627776) = false) ∨ (nameB s.nm.data.toList = true ∧ decide (1 ≤ s.he) = true ∧ decide (s.he ≤ 32768) = false ∧ ((((((nameB s.nm.data.toList && decide (1 ≤ s.he)) && decide (s.he ≤ 32768)) && decide (0 ≤ s.pr)) && decide (s.pr ≤ 1073741824)) && shpB s.ar.l s.he 1073741824) && shpB s.cv.l s.he 1099511627776) = false) ∨ (nameB s.nm.data.toList = true ∧ decide (1 ≤ s.he) = true ∧ decide (s.he ≤ 32768) = true ∧ decide (0 ≤ s.pr) = false ∧ ((((((nameB s.nm.data.toList && decide (1 ≤ s.he)) && decide (s.he ≤ 32768)) && decide (0 ≤ s.pr)) && decide (s.pr ≤ 1073741824)) && shpB s.ar.l s.he 1073741824) && shpB s.cv.l s.he 1099511627776) = false) ∨ (nameB s.nm.data.toList = true ∧ decide (1 ≤ s.he) = true ∧ decide (s.he ≤ 32768) = true ∧ decide (0 ≤ s.pr) = true ∧ decide (s.pr ≤ 1073741824) = false ∧ ((((((nameB s.nm.data.toList && decide (1 ≤ s.he)) && decide (s.he ≤ 32768)) && decide (0 ≤ s.pr)) && decide (s.pr ≤ 1073741824)) && shpB s.ar.l s.he 1073741824) && shpB s.cv.l s.he 1099511627776) = false) ∨ (nameB s.nm.data.toList = true ∧ decide (1 ≤ s.he) = true ∧ decide (s.he ≤ 32768) = true ∧ decide (0 ≤ s.pr) = true ∧ decide (s.pr ≤ 1073741824) = true ∧ shpB s.ar.l s.he 1073741824 = false ∧ ((((((nameB s.nm.data.toList && decide (1 ≤ s.he)) && decide (s.he ≤ 32768)) && decide (0 ≤ s.pr)) && decide (s.pr ≤ 1073741824)) && shpB s.ar.l s.he 1073741824) && shpB s.cv.l s.he 1099511627776) = false) ∨ (nameB s.nm.data.toList = true ∧ decide (1 ≤ s.he) = true ∧ decide (s.he ≤ 32768) = true ∧ decide (0 ≤ s.pr) = true ∧ decide (s.pr ≤ 1073741824) = true ∧ shpB s.ar.l s.he 1073741824 = true ∧ ((((((nameB s.nm.data.toList && decide (1 ≤ s.he)) && decide (s.he ≤ 32768)) && decide (0 ≤ s.pr)) && decide (s.pr ≤ 1073741824)) && shpB s.ar.l s.he 1073741824) && shpB s.cv.l s.he 1099511627776) = shpB s.cv.l s.he 1099511627776) := by
    generalize nameB s.nm.data.toList = p0
    generalize decide (1 ≤ s.he) = p1
    generalize decide (s.he ≤ 32768) = p2
    generalize decide (0 ≤ s.pr) = p3
    generalize decide (s.pr ≤ 1073741824) = p4
    generalize shpB s.ar.l s.he 1073741824 = p5
    generalize shpB s.cv.l s.he 1099511627776 = p6
    revert p0 p1 p2 p3 p4 p5 p6
    decide
  generalize ((((((nameB s.nm.data.toList && decide (1 ≤ s.he)) && decide (s.he ≤ 32768)) && decide (0 ≤ s.pr)) && decide (s.pr ≤ 1073741824)) && shpB s.ar.l s.he 1073741824) && shpB s.cv.l s.he 1099511627776) = v at *
  generalize nameB s.nm.data.toList = r0 at *
  generalize shpB s.ar.l s.he 1073741824 = r5 at *
  generalize shpB s.cv.l s.he 1099511627776 = r6 at *
  replace WY := hide WY
  rcases WY.out with ⟨rfl, rfl⟩ | ⟨rfl, y1, rfl⟩ | ⟨rfl, y1, y2, rfl⟩ | ⟨rfl, y1, y2, y3, rfl⟩ | ⟨rfl, y1, y2, y3, y4, rfl⟩ | ⟨rfl, y1, y2, y3, y4, rfl, rfl⟩ | ⟨rfl, y1, y2, y3, y4, rfl, rfl⟩
  ·
    clear WY
    go_enter Tryz.func54, Tryz.ntmps54
    go_wp2_with fail
    refine (NB.out _).mono ?_
    rintro e w' ⟨rfl, rfl⟩
    go_wp2
    go_ret
    exact ⟨ret_bool (by simp), X.out.1⟩
  ·
    clear WY
    go_enter Tryz.func54, Tryz.ntmps54
    go_wp2_with fail
    refine (NB.out _).mono ?_
    rintro e w' ⟨rfl, rfl⟩
    go_wp2
    go_ret
    exact ⟨ret_bool (by simp), X.out.1⟩
  ·
    clear WY
    go_enter Tryz.func54, Tryz.ntmps54
    go_wp2_with fail
    refine (NB.out _).mono ?_
    rintro e w' ⟨rfl, rfl⟩
    go_wp2
    go_ret
    exact ⟨ret_bool (by simp), X.out.1⟩
  ·
    clear WY
    go_enter Tryz.func54, Tryz.ntmps54
    go_wp2_with fail
    refine (NB.out _).mono ?_
    rintro e w' ⟨rfl, rfl⟩
    go_wp2
    go_ret
    exact ⟨ret_bool (by simp), X.out.1⟩
  ·
    clear WY
    go_enter Tryz.func54, Tryz.ntmps54
    go_wp2_with fail
    refine (NB.out _).mono ?_
    rintro e w' ⟨rfl, rfl⟩
    go_wp2
    go_ret
    exact ⟨ret_bool (by simp), X.out.1⟩
  ·
    clear WY
    go_enter Tryz.func54, Tryz.ntmps54
    go_wp2_with fail
    refine (NB.out _).mono ?_
    rintro e w' ⟨rfl, rfl⟩
    go_wp2_with fail
    refine (C1.out _ (H2.out.below X.out.1)).mono ?_
    rintro e w' ⟨rfl, hb⟩
    replace X := hide (X.out.to hb)
    clear hb hr
    have hr := X.out.r1
    go_wp2
    go_ret
    exact ⟨ret_bool (by simp), X.out.1⟩
  ·
    clear WY
    go_enter Tryz.func54, Tryz.ntmps54
    go_wp2_with fail
    refine (NB.out _).mono ?_
    rintro e w' ⟨rfl, rfl⟩
    go_wp2_with fail
    refine (C1.out _ (H2.out.below X.out.1)).mono ?_
    rintro e w' ⟨rfl, hb⟩
    replace X := hide (X.out.to hb)
    clear hb hr
    have hr := X.out.r1
    go_wp2_with fail
    refine (C2.out _ (H3.out.below X.out.1)).mono ?_
    rintro e w' ⟨rfl, hb⟩
    replace X := hide (X.out.to hb)
    clear hb hr
    have hr := X.out.r1
    go_wp2
    go_ret
    exact ⟨ret_bool (by simp), X.out.1⟩
theorem cavalid_any (s : Sec) (w : World) (h1 : s.nm.size ≤ maxLen) (h2 : KnSl w s.ar.A s.ar.l) (h3 : KnSl w s.cv.A s.cv.l) : Calls Tryz.prog 54 #[s.val] w (RetW (.bool (secB s)) w) := by
  have e : secB s = ((((((nameB s.nm.data.toList && decide (1 ≤ s.he)) && decide (s.he ≤ 32768)) && decide (0 ≤ s.pr)) && decide (s.pr ≤ 1073741824)) && shpB s.ar.l s.he 1073741824) && shpB s.cv.l s.he 1099511627776) := by
    unfold secB inB; simp only [Bool.and_assoc]
  rw [e]
  exact cavalid_raw s w h1 h2 h3
end Go.Proofs.YtdcdfjinbieblaaGreatDoor

namespace Go.Proofs.YtdcdfjinbieblaaGreatDoor
open Go.RowKit

set_option maxHeartbeats 400000 in
theorem rletter_any (c : Int) (w : World) : Calls Tryz.prog 106 #[.int .u8 c] w fun e w' => e = .returned (.bool (letB c)) ∧ w = w' := by
  by_cases h1 : 97 ≤ c <;> by_cases h2 : c ≤ 122 <;> by_cases h3 : 65 ≤ c <;> by_cases h4 : c ≤ 90
  all_goals
    go_enter Tryz.func106, Tryz.ntmps106
    go_wp2
    go_ret
    refine ⟨ret_bool ?_, rfl⟩
    simp [letB, h1, h2, h3, h4]
set_option maxHeartbeats 400000 in
theorem rdigit_any (c : Int) (w : World) : Calls Tryz.prog 141 #[.int .u8 c] w fun e w' => e = .returned (.bool (digB c)) ∧ w = w' := by
  by_cases h1 : 48 ≤ c <;> by_cases h2 : c ≤ 57
  all_goals
    go_enter Tryz.func141, Tryz.ntmps141
    go_wp2
    go_ret
    refine ⟨ret_bool ?_, rfl⟩
    simp [digB, h1, h2]

set_option maxHeartbeats 1000000 in
theorem rword_any (s : ByteArray) (w : World) (hs : s.size ≤ maxLen) :
    Calls Tryz.prog 107 #[.string s, .int .i64 0] w fun e w' => e = .returned (.int .i64 (wl s.data.toList)) ∧ w = w' := by
  unfold maxLen at hs
  go_enter Tryz.func107, Tryz.ntmps107
  go_wp2
  go_loop [1] (fun i => ∃ k : Nat, k ≤ s.size ∧ i = .int .i64 k ∧ Hid (wl s.data.toList = k + wl (s.data.toList.drop k))) (fun i => s.size - (intOf i).toNat)
  case atStart => exact ⟨0, Nat.zero_le _, rfl, hide (by simp)⟩
  case round =>
    obtain ⟨k, hk, rfl, hw⟩ := hrel
    by_cases hlt : k < s.size
    · have hat := hide (wl_at s k hlt hw.out)
      have hbd := byte_bd s[k]
      by_cases h1 : letB (s[k].toNat : Int) = true
      · have h1' := hide (wd_let h1)
        go_wp2_with (first | (go_at_call 106; refine (rletter_any _ _).mono ?_; rintro e w' ⟨rfl, rfl⟩))
        go_round
        case rel => exact ⟨k + 1, by omega, by go_num, hide (by have := hat.out; rw [if_pos h1'.out] at this; omega)⟩
        case measure => simp [intOf]; omega
      · have h1 : letB (s[k].toNat : Int) = false := by simpa using h1
        by_cases h2 : digB (s[k].toNat : Int) = true
        · have h1' := hide (wd_dig h2)
          go_wp2_with (first | (go_at_call 106; refine (rletter_any _ _).mono ?_; rintro e w' ⟨rfl, rfl⟩) | (go_at_call 141; refine (rdigit_any _ _).mono ?_; rintro e w' ⟨rfl, rfl⟩))
          go_round
          case rel => exact ⟨k + 1, by omega, by go_num, hide (by have := hat.out; rw [if_pos h1'.out] at this; omega)⟩
          case measure => simp [intOf]; omega
        · have h2 : digB (s[k].toNat : Int) = false := by simpa using h2
          have h3' := hide (wd_und h1 h2)
          by_cases h3 : ((s[k].toNat : Int) == 95) = true
          · have h3'' := hide h3
            go_wp2_with (first | (go_at_call 106; refine (rletter_any _ _).mono ?_; rintro e w' ⟨rfl, rfl⟩) | (go_at_call 141; refine (rdigit_any _ _).mono ?_; rintro e w' ⟨rfl, rfl⟩))
            go_round
            case rel => exact ⟨k + 1, by omega, by go_num, hide (by have := hat.out; rw [if_pos (h3'.out.trans h3''.out)] at this; omega)⟩
            case measure => simp [intOf]; omega
          · have h3 : ((s[k].toNat : Int) == 95) = false := by simpa using h3
            have h3'' := hide h3
            go_wp2_with (first | (go_at_call 106; refine (rletter_any _ _).mono ?_; rintro e w' ⟨rfl, rfl⟩) | (go_at_call 141; refine (rdigit_any _ _).mono ?_; rintro e w' ⟨rfl, rfl⟩))
            go_ret
            refine ⟨ret_int ?_, rfl⟩
            have := hat.out
            rw [if_neg (by rw [h3'.out, h3''.out]; simp)] at this
            omega
    · have he : k = s.size := by omega
      have hq := hide (wl_end s (he ▸ hw.out))
      clear he
      go_wp2
      go_ret
      refine ⟨ret_int ?_, rfl⟩
      have := hq.out
      omega

set_option maxHeartbeats 1000000 in
theorem risname_any (s : ByteArray) (w : World) (hs : s.size ≤ maxLen) :
    Calls Tryz.prog 64 #[.string s] w fun e w' => e = .returned (.bool (nameB s.data.toList)) ∧ w = w' := by
  have hs' := hs
  unfold maxLen at hs
  by_cases h0 : s.size = 0
  · have hn := hide (nameB_nil s h0)
    have hd : decide (s.size = 0) = true := by simpa using h0
    have hd : ((s.size : Int) == 0) = true := by simpa using h0
    go_enter Tryz.func64, Tryz.ntmps64
    go_wp2
    go_ret
    exact ⟨ret_bool hn.out.symm, rfl⟩
  · have hn := hide (nameB_at s (by omega))
    have hp : 0 < s.size := by omega
    have hd : ((s.size : Int) == 0) = false := by simpa using h0
    by_cases h1 : s.size ≤ 20 <;> by_cases h2 : letB (s[0].toNat : Int) = true
    all_goals
      go_enter Tryz.func64, Tryz.ntmps64
      go_wp2_with (first | (go_at_call 106; refine (rletter_any _ _).mono ?_; rintro e w' ⟨rfl, rfl⟩) | (go_at_call 107; refine (rword_any _ _ hs').mono ?_; rintro e w' ⟨rfl, rfl⟩))
      go_ret
      refine ⟨ret_bool ?_, rfl⟩
      rw [hn.out]
      simp [h1, h2]
    rw [Bool.eq_iff_iff]; simp; omega
end Go.Proofs.YtdcdfjinbieblaaGreatDoor

namespace Go.Proofs.YtdcdfjinbieblaaGreatDoor
open Go Go.RowKit

set_option maxHeartbeats 1000000 in
theorem rlev_any (n : Int) (w : World) : Calls Tryz.prog 66 #[.int .i64 n] w fun e w' => e = .returned (.bool (inB (-4194304) 4194304 n)) ∧ w = w' := by
  unfold inB
  have ways : decide ((-4194304) ≤ n) = true ∨ decide ((-4194304) ≤ n) = false := by cases decide ((-4194304) ≤ n) <;> simp
  rcases ways with q1 | q1
  all_goals
    rw [q1]
    go_enter Tryz.func66, Tryz.ntmps66
    go_wp2
    go_ret
    exact ⟨ret_bool (by simp), rfl⟩
set_option maxHeartbeats 1000000 in
theorem rpos_any (n : Int) (w : World) : Calls Tryz.prog 65 #[.int .i64 n] w fun e w' => e = .returned (.bool (inB (-16777216) 16777216 n)) ∧ w = w' := by
  unfold inB
  have ways : decide ((-16777216) ≤ n) = true ∨ decide ((-16777216) ≤ n) = false := by cases decide ((-16777216) ≤ n) <;> simp
  rcases ways with q1 | q1
  all_goals
    rw [q1]
    go_enter Tryz.func65, Tryz.ntmps65
    go_wp2
    go_ret
    exact ⟨ret_bool (by simp), rfl⟩
set_option maxHeartbeats 1000000 in
theorem rwithin_any (n m : Int) (w : World) : Calls Tryz.prog 68 #[.int .i64 n, .int .i64 m] w fun e w' => e = .returned (.bool (inB 1 m n)) ∧ w = w' := by
  unfold inB
  have ways : decide (1 ≤ n) = true ∨ decide (1 ≤ n) = false := by cases decide (1 ≤ n) <;> simp
  rcases ways with q1 | q1
  all_goals
    rw [q1]
    go_enter Tryz.func68, Tryz.ntmps68
    go_wp2
    go_ret
    exact ⟨ret_bool (by simp), rfl⟩
/-- the first and the last knot of a valid table, in every world in which it lies -/
theorem kn_ends {l : List Knt} {A : Option Addr} {w : World} (h : KnSl w A l) (hv : vKn l = true) : ∃ b off j, A = some ⟨b, off, none⟩ ∧ b < w.heap.size ∧ IntKind.i64.wrap ((l.length : Int) - 1) = ((j : Nat) : Int) ∧ (0 : Int) ≤ (j : Int) ∧ (j : Int) < (l.length : Int) ∧ (0 : Int) < (l.length : Int) ∧ l.length ≤ 100 ∧
    (∀ W, Below w.heap.size w W → W.cell? ⟨b, off, none⟩ = some (.int .i64 (l.getD 0 ⟨0, 0⟩).x) ∧ W.cell? ⟨b, off + 1, none⟩ = some (.int .i64 (l.getD 0 ⟨0, 0⟩).y) ∧ W.cell? ⟨b, off + j * 2, none⟩ = some (.int .i64 (l.getD (l.length - 1) ⟨0, 0⟩).x) ∧ W.cell? ⟨b, off + j * 2 + 1, none⟩ = some (.int .i64 (l.getD (l.length - 1) ⟨0, 0⟩).y)) := by
  obtain ⟨n1, n2⟩ := (vKn_iff.1 hv).1
  obtain ⟨b, off, e, hbl, hat⟩ := h.2 (by omega)
  obtain ⟨j, hj⟩ : ∃ j, l.length = j + 1 := ⟨l.length - 1, by omega⟩
  have hj2 : j < l.length := by omega
  have e0 : l.getD 0 ⟨0, 0⟩ = l[0] := by simp [List.getD, List.getElem?_eq_getElem (show 0 < l.length by omega)]
  have e1 : l.getD (l.length - 1) ⟨0, 0⟩ = l[j] := by
    have : l.length - 1 = j := by omega
    rw [this]
    simp [List.getD, List.getElem?_eq_getElem hj2]
  refine ⟨b, off, j, e, hbl, by rw [IntWalk.i64_in _ (by omega)]; omega, by omega, by omega, by omega, n2, fun W hW => ?_⟩
  have k := fun (i : Nat) => hW.cell (p := ⟨b, i, none⟩) hbl
  rw [e0, e1]
  have a0 := hat 0 (by omega)
  simp only [Nat.zero_mul, Nat.add_zero] at a0
  exact ⟨(k _).trans a0.1, (k _).trans a0.2, (k _).trans (hat j hj2).1, (k _).trans (hat j hj2).2⟩
theorem ways4 (a b c d : Bool) : (a = false ∧ (a && b && (c && d)) = false) ∨ (a = true ∧ b = false ∧ (a && b && (c && d)) = false) ∨ (a = true ∧ b = true ∧ c = false ∧ (a && b && (c && d)) = false) ∨ (a = true ∧ b = true ∧ c = true ∧ (a && b && (c && d)) = d) := by
  cases a <;> cases b <;> cases c <;> simp
theorem beqd (x y : Int) : (x == y) = decide (x = y) := by rw [Bool.eq_iff_iff]; simp
set_option maxRecDepth 100000 in
set_option maxHeartbeats 2000000 in
theorem rshape_any (t : List Knt) (A : Option Addr) (cap : Nat) (d: Int) (w : World) (hl : KnSl w A t) : Calls Tryz.prog 67 #[.slice A t.length cap, .int .i64 d] w (RetW (.bool (shpB t d 1125899906842624)) w) := by
  have V := hide (fun W h => rtab_any t A cap W h)
  unfold RetW at V
  have HL := hide hl
  cases hv : vKn t with
  | false =>
    rw [hv] at V
    have E : Hid (shpB t d 1125899906842624 = false) := hide (by unfold shpB; rw [hv]; rfl)
    clear hl hv
    generalize shpB t d 1125899906842624 = v at *
    go_enter Tryz.func67, Tryz.ntmps67
    go_wp2_with fail
    refine (V.out _ HL.out).mono ?_
    rintro e w' ⟨rfl, hb⟩
    go_wp2
    go_ret
    exact ⟨ret_bool E.out.symm, hb⟩
  | true =>
    rw [hv] at V
    obtain ⟨b, off, j, rfl, hbl, g0, g1, g2, g3, hlen, CC⟩ := kn_ends hl hv
    have EV : Hid (shpB t d 1125899906842624 = (decide ((t.getD 0 ⟨0, 0⟩).x = 0) && decide ((t.getD 0 ⟨0, 0⟩).y = 0) && (decide ((t.getD (t.length - 1) ⟨0, 0⟩).x = d) && decide ((t.getD (t.length - 1) ⟨0, 0⟩).y ≤ 1125899906842624)))) := hide (by unfold shpB; rw [hv]; simp only [Bool.true_and])
    replace CC := hide CC
    clear hl hv
    generalize shpB t d 1125899906842624 = v at *
    generalize t.getD 0 ⟨0, 0⟩ = p at *
    generalize t.getD (t.length - 1) ⟨0, 0⟩ = q at *
    have WY := ways4 (p.x == 0) (p.y == 0) (q.x == d) (decide (q.y ≤ 1125899906842624))
    rw [beqd p.x, beqd p.y, beqd q.x, ← EV.out, ← beqd p.x, ← beqd p.y, ← beqd q.x] at WY
    replace WY := hide WY
    clear EV
    rcases WY.out with ⟨y1, rfl⟩ | ⟨y1, y2, rfl⟩ | ⟨y1, y2, y3, rfl⟩ | ⟨y1, y2, y3, rfl⟩
    all_goals
      clear WY
      go_enter Tryz.func67, Tryz.ntmps67
      go_wp2_with fail
      refine (V.out _ HL.out).mono ?_
      rintro e w' ⟨rfl, hb⟩
      obtain ⟨-, -, c3, c4⟩ := CC.out w' hb
      have X := (Own.start w').alloc #[.int .i64 q.x, .int .i64 q.y] 121
      have hr := X.r1
      have HB := hide (below_via hb hb.size X.1)
      obtain ⟨c1, c2, -, -⟩ := CC.out _ HB.out
      clear hb X
      go_wp2
      go_ret
      exact ⟨ret_bool rfl, HB.out⟩
theorem ways5 (v a b c d : Bool) : (v = false ∧ (v && (a && b) && (c && d)) = false) ∨ (v = true ∧ a = false ∧ (v && (a && b) && (c && d)) = false) ∨ (v = true ∧ a = true ∧ b = false ∧ (v && (a && b) && (c && d)) = false) ∨ (v = true ∧ a = true ∧ b = true ∧ c = false ∧ (v && (a && b) && (c && d)) = false) ∨ (v = true ∧ a = true ∧ b = true ∧ c = true ∧ (v && (a && b) && (c && d)) = d) := by
  cases v <;> cases a <;> cases b <;> cases c <;> simp
set_option maxRecDepth 100000 in
set_option maxHeartbeats 2000000 in
theorem rcurve_any (t : List Knt) (A : Option Addr) (cap : Nat) (w : World) (hl : KnSl w A t) : Calls Tryz.prog 69 #[.slice A t.length cap] w (RetW (.bool (curB t)) w) := by
  have V := hide (fun W h => rtab_any t A cap W h)
  unfold RetW at V
  have HL := hide hl
  have CC := hide (fun hv => kn_ends hl hv)
  have EV : Hid (curB t = (vKn t && (decide (0 ≤ (t.getD 0 ⟨0, 0⟩).x) && decide ((t.getD (t.length - 1) ⟨0, 0⟩).x ≤ 4194304)) && (decide (0 ≤ (t.getD 0 ⟨0, 0⟩).y) && decide ((t.getD (t.length - 1) ⟨0, 0⟩).y ≤ 1099511627776)))) := hide rfl
  clear hl
  generalize curB t = r at *
  generalize t.getD 0 ⟨0, 0⟩ = p at *
  generalize t.getD (t.length - 1) ⟨0, 0⟩ = q at *
  have WY := ways5 (vKn t) (decide (0 ≤ p.x)) (decide (q.x ≤ 4194304)) (decide (0 ≤ p.y)) (decide (q.y ≤ 1099511627776))
  rw [← EV.out] at WY
  clear EV
  generalize hv : vKn t = v at *
  replace WY := hide WY
  cases v with
  | false =>
    have E : Hid (r = false) := hide (by rcases WY.out with ⟨-, h⟩ | ⟨h, -⟩ | ⟨h, -⟩ | ⟨h, -⟩ | ⟨h, -⟩ <;> first | exact h | cases h)
    clear WY CC hv
    go_enter Tryz.func69, Tryz.ntmps69
    go_wp2_with fail
    refine (V.out _ HL.out).mono ?_
    rintro e w' ⟨rfl, hb⟩
    go_wp2
    go_ret
    exact ⟨ret_bool E.out.symm, hb⟩
  | true =>
    obtain ⟨b, off, j, rfl, hbl, g0, g1, g2, g3, hlen, C⟩ := CC.out rfl
    replace C := hide C
    clear CC hv
    rcases WY.out with ⟨y0, rfl⟩ | ⟨y0, y1, rfl⟩ | ⟨y0, y1, y2, rfl⟩ | ⟨y0, y1, y2, y3, rfl⟩ | ⟨y0, y1, y2, y3, rfl⟩
    · cases y0
    all_goals
      clear WY y0
      go_enter Tryz.func69, Tryz.ntmps69
      go_wp2_with fail
      refine (V.out _ HL.out).mono ?_
      rintro e w' ⟨rfl, hb⟩
      obtain ⟨c1, c2, c3, c4⟩ := C.out w' hb
      have HB := hide hb
      clear hb
      go_wp2
      go_ret
      exact ⟨ret_bool rfl, HB.out⟩
end Go.Proofs.YtdcdfjinbieblaaGreatDoor
