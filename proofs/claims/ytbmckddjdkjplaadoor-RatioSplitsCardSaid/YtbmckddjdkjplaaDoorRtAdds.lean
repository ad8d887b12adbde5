/- RatioAddsUp: shares add up: for all totals and weights the law returns true. -/
import Derived.Test.YtbmckddjdkjplaaDoorRtAwake
import Derived.Test.YtbmckddjdkjplaaDoorRtAddsP
import Derived.Test.YtbmckddjdkjplaaDoorU32Row
namespace Go.Proofs.YtbmckddjdkjplaaDoor
open Go Go.RowKit

/-- a slice of known length and an error -/
def ShareN (m : List Int) (n : Nat) (er : Int) (w : World) (e : Ending) (w' : World) : Prop := Below w.heap.size w w' ∧ ∃ (A : Option Addr) (cap : Nat), e = .returned (.tuple #[.slice A n cap, .int .i64 er]) ∧ IntSl w' A m
theorem SharePost.n {t : Int} {l m : List Int} {n : Nat} {er : Int} {w w' : World} {e : Ending} (h : SharePost t l w e w') (h1 : shL t l = m) (h2 : m.length = n) (h3 : shE t l = er) : ShareN m n er w e w' :=
  ⟨h.1, by obtain ⟨A, c, k1, k2, _⟩ := h.2; exact ⟨A, c, by rw [k1, h1, h2, h3], by rw [← h1]; exact k2⟩⟩
theorem tmod_nat {x k : Int} (h : 0 ≤ x) : x.tmod k = x % k := Int.tmod_eq_emod_of_nonneg h
set_option maxRecDepth 100000 in
set_option maxHeartbeats 4000000 in
theorem adds_law (t : Int) (l : List Int) (A : Option Addr) (cap : Nat) (w : World) (ht0 : 0 ≤ t) (hl : U32Sl w A l) (ht : PowTab w) :
    Calls Tryd.prog 5 #[.int .u64 t, .slice A l.length cap] w (RetB (.bool true) w) := by
  have X := Own.start w
  have HT := hide ht
  have HL := hide hl
  have hlen : l.length ≤ 9223372036854775807 := hl.1.1
  have hbd := hide hl.1.2
  clear ht hl
  by_cases h200 : 200 < l.length
  · have c1 : decide ((200 : Int) < (l.length : Int)) = true := decide_eq_true (by omega)
    clear h200
    go_enter Tryd.func5, Tryd.ntmps5
    go_wp2_with fail
    refine (awake_any _ HT.out).mono ?_
    rintro e w1 ⟨rfl, hb⟩
    replace X := X.to hb
    go_wp2
    go_ret
    exact ⟨rfl, X.1⟩
  have c1 : decide ((200 : Int) < (l.length : Int)) = false := decide_eq_false (by omega)
  have hl200 : l.length ≤ 200 := by omega
  obtain ⟨T, eT⟩ : ∃ T : Nat, t.tmod 1099511627777 = (T : Int) := ⟨(t % 1099511627777).toNat, by rw [tmod_nat ht0]; omega⟩
  have hT : T ≤ 1099511627776 := by have := tmod_nat (k := 1099511627777) ht0; omega
  have hT2 : (T : Int) ≤ 1099511627776 := by omega
  have hml := mW_length l
  have hms := mW_sum l
  have SE := hide (mW_shE l T hl200 hT)
  have HT2 := hide hT
  have HM := hide (And.intro hml hms)
  obtain ⟨i0, hi0, hz0, hz1, hz2⟩ := info_parts int_info
  clear h200 hT hml hms
  go_enter Tryd.func5, Tryd.ntmps5
  go_wp2_with fail
  refine (awake_any _ HT.out).mono ?_
  rintro e w1 ⟨rfl, hb⟩
  replace X := X.to hb
  have HB := hide X.1
  clear hb X
  go_wp2
  go_loopw [6, 7, 28] (fun v6 v7 v28 wr => ∃ k : Nat, k ≤ l.length ∧ v28 = .int .i64 k ∧ v6 = .int .i64 (preS (mW l) k) ∧
    Hid (Below w.heap.size w wr ∧ wr.ownsRow w.heap.size 3 1 v7 k (((mW l).take k).map (Value.int .i64)))) (fun _ _ v28 _ => l.length - (intOf v28).toNat)
  case atStart => exact ⟨0, Nat.zero_le _, rfl, by rw [preS_zero], hide ⟨HB.out, by simpa using World.ownsRow_nil _ _ _ _⟩⟩
  case round =>
    obtain ⟨k, hk, rfl, rfl, HR⟩ := hrel
    have hp := mW_pre l k (by rw [HM.out.1]; exact hk)
    by_cases hlt : k < l.length
    · have hlt' : k < (mW l).length := by rw [HM.out.1]; exact hlt
      obtain ⟨b, off, rfl, hbl, hat⟩ := (HL.out.below HR.out.1).2 (by omega)
      have c0 := hat k hlt
      have hx := hbd.out k hlt
      have em := mW_at l k hlt
      have hm := mW_bd l k hlt'
      have ep := preS_succ (mW l) k hlt'
      have et := take_snocR (mW l) k hlt'
      have tm := tmod_nat (k := 1048577) hx.1
      rw [← em] at tm
      have EP := hide (And.intro ep et)
      obtain ⟨m0, m1⟩ := hm
      obtain ⟨x0, x1⟩ := hx
      have hp1 : preS (mW l) k ≤ 209715200 := by omega
      obtain ⟨hp0, _⟩ := hp
      clear hat em ep et
      generalize preS (mW l) k = p at *
      generalize (mW l)[k] = m at *
      generalize (mW l).take k = R at *
      generalize l[k] = x at *
      generalize wr = W at *
      go_wp2_with (at_builtin; refine wpList_append_own _ rfl _ _ 32 rfl w.heap.size 3 i0 (.int .i64 0) 1 8 Tryd.underlying32 hi0 hz0 hz1 hz2 rfl (by decide) _ k (R.map (Value.int .i64)) rfl (HR.out.2.alloc (.cells #[.int .i64 m] 3)) ⟨W.heap.size, 0, none⟩ 1 1 [.int .i64 m] rfl rfl (World.news_of_block (cs := #[.int .i64 m]) (t := 3) (fr := (0, 0)) (heap_new_at (by rfl))) (by simp [Value.oneCell']) (by unfold maxLen; omega) (by omega) (by have := HR.out.1.size; simp; omega) ?_; intro v4 w4 hown4 hgrow _)
      have B5 : Below w.heap.size w w4 := (HR.out.1.alloc HR.out.1.size (.cells #[.int .i64 m] 3)).grown hgrow (by have := HR.out.1.size; simp; omega) (fun k hk => ((HR.out.2.alloc (.cells #[.int .i64 m] 3)).lt k hk).1)
      have B4 := hide (And.intro B5 hown4)
      clear B5 hown4 hgrow
      go_roundw
      case rel => exact ⟨k + 1, by omega, by go_num, by rw [EP.out.1], hide ⟨B4.out.1, by rw [EP.out.2, List.map_append]; exact B4.out.2⟩⟩
      case measure => simp [intOf]; omega
    · have e : k = l.length := by omega
      subst e
      clear hlt
      have hall : preS (mW l) l.length = (mW l).sum := by have := preS_all (mW l); rwa [HM.out.1] at this
      have htk : (mW l).take l.length = mW l := by rw [← HM.out.1]; exact List.take_length
      rw [hall]
      rw [htk] at HR
      have hbw : ∀ i (h : i < (mW l).length), -9223372036854775808 ≤ (mW l)[i] ∧ (mW l)[i] ≤ 9223372036854775807 := fun i h => by have := mW_bd l i h; omega
      obtain ⟨A', cp, rfl, hsl⟩ := IntSl.of_row HR.out.2 (by rw [HM.out.1]; omega) hbw
      have HS := hide hsl
      have HR2 := hide HR.out.1
      have C1 := fun W h => share_any (T : Int) (mW l) A' cp W h
      rw [HM.out.1] at C1 ⊢
      clear hsl hbw htk hall HR hp
      by_cases hz : (mW l).sum = 0
      · have C2 := fun W h => (C1 W h).mono fun _ _ hp => SharePost.n hp (m := []) (n := 0) (er := 16) (by unfold shL; rw [SE.out, if_pos hz]; rfl) rfl (by rw [SE.out, if_pos hz])
        rw [hz]
        clear C1 hz
        go_wp2_with fail
        refine (C2 _ HS.out).mono ?_
        rintro e w3 ⟨hb, B1, cp1, rfl, hs1⟩
        have hB3 := below_via HR2.out HR2.out.size hb
        clear hs1 hb
        go_wp2
        go_ret
        exact ⟨rfl, hB3⟩
      have hS : 0 < (mW l).sum := by have := HM.out.2; omega
      have hz1' : ((mW l).sum == 0) = false := by simpa using hz
      have C2 := fun W h => (C1 W h).mono fun _ _ hp => SharePost.n hp (m := shK (T : Int) (mW l).sum (mW l) (mW l).length) (n := l.length) (er := 0) (by unfold shL; rw [SE.out, if_neg hz, if_pos rfl]) (by rw [shK_length, HM.out.1]) (by rw [SE.out, if_neg hz])
      have AT := hide (fun k (hk : k < (mW l).length) => adds_at hl200 HT2.out hS k hk)
      have QE := hide (qK_all (t := (T : Int)) hS)
      clear C1 hz hS
      go_wp2_with fail
      refine (C2 _ HS.out).mono ?_
      rintro e w3 ⟨hb, B1, cp1, rfl, hs1⟩
      have hB3 := hide (below_via HR2.out HR2.out.size hb)
      have HS1 := hide (HS.out.below hb)
      have HS2 := hide hs1
      clear hb hs1 C2 HS HR2
      go_wp2
      go_loopw [12, 70] (fun v12 v70 wr => ∃ k : Nat, k ≤ l.length ∧ v70 = .int .i64 k ∧ v12 = .int .i64 (qK (T : Int) (mW l).sum (mW l) k) ∧ Hid (Below w3.heap.size w3 wr)) (fun _ v70 _ => l.length - (intOf v70).toNat)
      case atStart => exact ⟨0, Nat.zero_le _, rfl, by rw [qK_zero], hide (Below.refl _ _)⟩
      case round =>
        obtain ⟨k, hk, rfl, rfl, HR⟩ := hrel
        by_cases hlt : k < l.length
        · have hlt' : k < (mW l).length := by rw [HM.out.1]; exact hlt
          have hls := shK_length (T : Int) (mW l).sum (mW l) (mW l).length
          have hlt2 : k < (shK (T : Int) (mW l).sum (mW l) (mW l).length).length := by rw [hls]; exact hlt'
          obtain ⟨b, off, rfl, hbl, hat⟩ := (HS1.out.below HR.out).2 (by omega)
          obtain ⟨b', off', rfl, hbl', hat'⟩ := (HS2.out.below HR.out).2 (by omega)
          have c0 := hat k hlt'
          have c1' := hat' k hlt2
          have eN : (shK (T : Int) (mW l).sum (mW l) (mW l).length)[k] = qK (T : Int) (mW l).sum (mW l) (k + 1) - qK (T : Int) (mW l).sum (mW l) k := by
            have e := shK_at (T : Int) (mW l).sum (mW l) (mW l).length k hlt'
            rw [List.getElem?_eq_getElem hlt2] at e
            injection e
          rw [eN] at c1'
          obtain ⟨n, q, r, m, S, low, a1, a2, a3, a4, a5, a6, a7, a8, a9, a10, a11, a12, a13, a14, a15, a16, a17, a18, a19, a20, a21, a22, a23, a24, a25, a26, a27, a28, a29⟩ := AT.out k hlt'
          rw [a1] at c1'
          rw [a2] at c0
          rw [a3] at a27 a28 a29 hz1' HS2 hlt2 ⊢
          have EK := hide a27
          have hS0 : S ≠ 0 := by omega
          have k1 : (k : Int) < (l.length : Int) := by omega
          have k0 : (0 : Int) ≤ (k : Int) := by omega
          have d1 : decide (n < 0) = false := decide_eq_false (by omega)
          have d2 : decide ((T : Int) < n) = false := decide_eq_false (by omega)
          have d3 : decide (n < low) = false := decide_eq_false (by omega)
          have d4 : decide (low + 1 < n) = false := decide_eq_false (by omega)
          have d5 : low ≤ 1152921505000000000 := by omega
          have d6 : 0 ≤ low := by omega
          have DZ : ((m == 0) = true ∧ (n != 0) = false) ∨ (m == 0) = false := by
            by_cases h : m = 0
            · exact .inl ⟨by simpa using h, by simpa using a8 h⟩
            · exact .inr (by simpa using h)
          have HRb := hide (And.intro HR.out a29)
          clear hat hat' a1 a2 a3 a8 a25 a26 a27 eN hls hlt' hlt2 HS1 HS2 AT
          generalize qK (T : Int) S (mW l) k = z at *
          generalize hP1 : q * m = P1 at *
          generalize hP2 : r * m = P2 at *
          generalize P2 / S = P3 at *
          rcases DZ with ⟨f1, f2⟩ | f1
          all_goals
            go_wp2_with fail
            go_quiet (fail)
            go_wp2_with fail
            go_quiet (fail)
            go_wp2
            go_roundw
            case rel => exact ⟨k + 1, by omega, by go_num, by rw [← EK.out], hide (by first | exact below_dn HRb.out.1 _ | exact below_dn (below_dn HRb.out.1 _) _)⟩
            case measure => simp [intOf]; omega
        · have e : k = l.length := by omega
          subst e
          have hq : qK (T : Int) (mW l).sum (mW l) l.length = (T : Int) := by have := QE.out; rwa [HM.out.1] at this
          rw [hq]
          have hfin := below_via hB3.out hB3.out.size HR.out
          go_wp2
          go_ret
          exact ⟨rfl, hfin⟩
end Go.Proofs.YtbmckddjdkjplaaDoor
