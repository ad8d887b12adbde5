/- Decimal integers without sign of at most nine digits: the program's number and the reference's Number: what each returns; nothing that was there is turned. -/
import Derived.Test.YtaaadejamjbcbaaDoorNumP
import Derived.Test.YtaaadejamjbcbaaDoorByte
import Derived.Test.YtaaadejamjbcbaaDoorCls
namespace Go.Proofs.YtaaadejamjbcbaaDoor
open Go Go.RowKit

def NumPost (v : Int) (b : Bool) (w : World) (e : Ending) (w' : World) : Prop := e = .returned (.tuple #[.int .i64 v, .bool b]) ∧ Below w.heap.size w w'
theorem NumPost.mk2 {v : Int} {b b' : Bool} {w w' : World} (hb : Below w.heap.size w w') (h : b = b') : NumPost v b w (.returned (.tuple #[.int .i64 v, .bool b'])) w' := by subst h; exact ⟨rfl, hb⟩
set_option maxRecDepth 100000 in
set_option maxHeartbeats 1000000 in
theorem number_any (l : List UInt8) (w : World) (hl : l.length ≤ 281474976710656) (ht : TxtW w) : Calls Tryd.prog 60 #[strV l] w (NumPost (atV l) (nuB l) w) := by
  have X := Own.start w
  have HT := hide ht
  have A1 := hide (fun W hW => atoiL l W hl hW)
  have bV := atV_bd l
  have I1 := hide (fun W hW => itoaL (atV l) W bV.1 bV.2 hW)
  have E : Hid (nuB l = (atB l && decide (l.length ≤ 9) && decide (Lib.itoa (atV l) = l) && decide (0 ≤ atV l))) := hide rfl
  clear ht
  generalize nuB l = nb at *
  generalize atB l = b1 at *
  generalize hv : atV l = v at *
  generalize Lib.itoa v = tv at *
  clear hv
  cases b1
  · have E2 : Hid (nb = false) := hide (by rw [E.out]; rfl)
    clear E
    go_enter Tryd.func60, Tryd.ntmps60
    go_wp2_with fail
    refine (A1.out _ HT.out).mono ?_
    rintro e w1 ⟨⟨ev1, rfl, h1, h2⟩, hb⟩
    obtain ⟨te, pe1, rfl⟩ := h2 rfl
    replace X := X.to hb
    clear h1 h2 hb
    go_wp2
    exact bodyPost_ret (v := .tuple #[.int .i64 v, .bool false]) (by simp [results, Tryd.results60, go_sem]) rfl (NumPost.mk2 X.1 E2.out)
  · by_cases hl9 : l.length ≤ 9
    · by_cases hq : tv = l
      · by_cases h0 : 0 ≤ v
        · have E2 : Hid (nb = true) := hide (by rw [E.out]; simp [hl9, hq, h0])
          have q1 : (tv == l) = true := by simp [hq]
          clear E hq
          go_enter Tryd.func60, Tryd.ntmps60
          go_wp2_with fail
          refine (A1.out _ HT.out).mono ?_
          rintro e w1 ⟨⟨ev1, rfl, h1, h2⟩, hb⟩
          obtain rfl := h1 rfl
          replace X := X.to hb
          clear h1 h2 hb
          go_wp2_with fail
          refine (I1.out _ (HT.out.below X.1)).mono ?_
          rintro e w2 ⟨rfl, hb⟩
          replace X := X.to hb
          clear hb
          go_wp2
          exact bodyPost_ret (v := .tuple #[.int .i64 v, .bool true]) (by simp [results, Tryd.results60, go_sem]) rfl (NumPost.mk2 X.1 E2.out)
        · have E2 : Hid (nb = false) := hide (by rw [E.out]; simp [h0])
          have q1 : (tv == l) = true := by simp [hq]
          have q2 : decide (0 ≤ v) = false := decide_eq_false h0
          clear E hq
          go_enter Tryd.func60, Tryd.ntmps60
          go_wp2_with fail
          refine (A1.out _ HT.out).mono ?_
          rintro e w1 ⟨⟨ev1, rfl, h1, h2⟩, hb⟩
          obtain rfl := h1 rfl
          replace X := X.to hb
          clear h1 h2 hb
          go_wp2_with fail
          refine (I1.out _ (HT.out.below X.1)).mono ?_
          rintro e w2 ⟨rfl, hb⟩
          replace X := X.to hb
          clear hb
          go_wp2
          exact bodyPost_ret (v := .tuple #[.int .i64 v, .bool false]) (by simp [results, Tryd.results60, go_sem]) rfl (NumPost.mk2 X.1 E2.out)
      · have E2 : Hid (nb = false) := hide (by rw [E.out]; simp [hq])
        have q1 : (tv == l) = false := by simp [hq]
        clear E hq
        go_enter Tryd.func60, Tryd.ntmps60
        go_wp2_with fail
        refine (A1.out _ HT.out).mono ?_
        rintro e w1 ⟨⟨ev1, rfl, h1, h2⟩, hb⟩
        obtain rfl := h1 rfl
        replace X := X.to hb
        clear h1 h2 hb
        go_wp2_with fail
        refine (I1.out _ (HT.out.below X.1)).mono ?_
        rintro e w2 ⟨rfl, hb⟩
        replace X := X.to hb
        clear hb
        go_wp2
        exact bodyPost_ret (v := .tuple #[.int .i64 v, .bool false]) (by simp [results, Tryd.results60, go_sem]) rfl (NumPost.mk2 X.1 E2.out)
    · have E2 : Hid (nb = false) := hide (by rw [E.out]; simp [hl9])
      have q2 : decide ((l.length : Int) ≤ 9) = false := decide_eq_false (by omega)
      clear E
      go_enter Tryd.func60, Tryd.ntmps60
      go_wp2_with fail
      refine (A1.out _ HT.out).mono ?_
      rintro e w1 ⟨⟨ev1, rfl, h1, h2⟩, hb⟩
      obtain rfl := h1 rfl
      replace X := X.to hb
      clear h1 h2 hb
      go_wp2
      exact bodyPost_ret (v := .tuple #[.int .i64 v, .bool false]) (by simp [results, Tryd.results60, go_sem]) rfl (NumPost.mk2 X.1 E2.out)
/-- what the reference's Number returns -/
def rnV (l : List UInt8) : Int := if rnB l then (valL 0 l : Nat) else 0
theorem rn_len {l : List UInt8} (h : ¬ (1 ≤ l.length ∧ l.length ≤ 9)) : rnB l = false ∧ rnV l = 0 := by
  have : rnB l = false := by
    rcases Bool.eq_false_or_eq_true (rnB l) with h1 | h1
    · have := rn_facts h1
      have h2 := List.length_pos_iff.2 this.2.1
      omega
    · exact h1
  exact ⟨this, by unfold rnV; rw [if_neg (by rw [this]; simp)]⟩
theorem rn_zero {l : List UInt8} (h : 1 < l.length) (h0 : l.head? = some 48) : rnB l = false ∧ rnV l = 0 := by
  have : rnB l = false := by
    rcases Bool.eq_false_or_eq_true (rnB l) with h1 | h1
    · exact absurd (by rw [h0]; rfl) ((rn_facts h1).2.2.2 h)
    · exact h1
  exact ⟨this, by unfold rnV; rw [if_neg (by rw [this]; simp)]⟩
theorem rn_bad {l : List UInt8} {c : UInt8} (h : c ∈ l) (h0 : ¬ isDg c) : rnB l = false ∧ rnV l = 0 := by
  have : rnB l = false := by
    rcases Bool.eq_false_or_eq_true (rnB l) with h1 | h1
    · exact absurd ((rn_facts h1).1 c h) h0
    · exact h1
  exact ⟨this, by unfold rnV; rw [if_neg (by rw [this]; simp)]⟩
theorem rn_good {l : List UInt8} (h1 : 1 ≤ l.length) (h9 : l.length ≤ 9) (hz : 1 < l.length → l.head? ≠ some 48) (hd : ∀ c ∈ l, isDg c) : rnB l = true ∧ rnV l = (valL 0 l : Nat) := by
  have : rnB l = true := by
    unfold rnB
    simp only [Bool.and_eq_true, decide_eq_true_eq, Bool.not_eq_true', Bool.and_eq_false_iff, decide_eq_false_iff_not]
    refine ⟨⟨⟨h1, h9⟩, ?_⟩, all_dg.2 hd⟩
    by_cases h : 1 < l.length
    · exact .inr (hz h)
    · exact .inl h
  exact ⟨this, by unfold rnV; rw [if_pos this]⟩
theorem u8_digit {d : Nat} (h1 : 48 ≤ d) (h2 : d ≤ 57) : IntKind.u8.wrap ((d : Int) - 48) = ((d - 48 : Nat) : Int) ∧ IntKind.i64.wrap (((d - 48 : Nat) : Int)) = ((d - 48 : Nat) : Int) := by
  constructor
  · simp [IntKind.wrap, IntKind.signed, IntKind.bits]; omega
  · exact IntWalk.i64_in _ (by omega)
theorem val_take {l : List UInt8} {k : Nat} (h : k < l.length) : valL 0 (l.take (k + 1)) = valL 0 (l.take k) * 10 + (l[k].toNat - 48) := by
  rw [List.take_succ_eq_append_getElem h, valL_append]
  rfl
set_option maxRecDepth 100000 in
set_option maxHeartbeats 2000000 in
theorem rnumber_any (s : ByteArray) (w : World) (hs : s.size ≤ maxLen) : Calls Tryd.prog 61 #[.string s] w fun e w' => e = .returned (.tuple #[.int .i64 (rnV s.data.toList), .bool (rnB s.data.toList)]) ∧ w = w' := by
  unfold maxLen at hs
  have hl : s.data.toList.length = s.size := by simp
  by_cases h1 : 1 ≤ s.size ∧ s.size ≤ 9
  case neg =>
    have E := hide (rn_len (l := s.data.toList) (by rw [hl]; exact h1))
    have q : decide ((s.size : Int) < 1) = true ∨ (decide ((s.size : Int) < 1) = false ∧ decide ((9 : Int) < (s.size : Int)) = true) := by
      rcases Nat.lt_or_ge s.size 1 with h2 | h2
      · exact .inl (decide_eq_true (by omega))
      · exact .inr ⟨decide_eq_false (by omega), decide_eq_true (by omega)⟩
    clear h1 hl
    rcases q with q | ⟨q, q'⟩
    all_goals
      go_enter Tryd.func61, Tryd.ntmps61
      go_wp2
      go_ret2
      exact ⟨by rw [E.out.1, E.out.2]; rfl, rfl⟩
  obtain ⟨h1, h9⟩ := h1
  have HH := hide (head_byte s (by omega))
  have hb0 := byteD s[0]
  by_cases hz : 1 < s.size ∧ s[0].toNat = 48
  · have E := hide (rn_zero (l := s.data.toList) (by rw [hl]; exact hz.1) (by rw [HH.out]; congr 1; exact UInt8.toNat_inj.1 hz.2))
    obtain ⟨hz1, hz2⟩ := hz
    have q0 : ((s[0].toNat : Int) == 48) = true := by simp; omega
    have q1 : decide ((s.size : Int) < 1) = false := decide_eq_false (by omega)
    have q2 : decide ((9 : Int) < (s.size : Int)) = false := decide_eq_false (by omega)
    have q3 : decide ((1 : Int) < (s.size : Int)) = true := decide_eq_true (by omega)
    clear HH hl
    go_enter Tryd.func61, Tryd.ntmps61
    go_wp2
    go_ret2
    exact ⟨by rw [E.out.1, E.out.2]; rfl, rfl⟩
  have G := hide (fun hd => rn_good (l := s.data.toList) (by omega) (by omega) (fun h e => hz ⟨by omega, by rw [HH.out] at e; injection e with e; rw [e]; rfl⟩) hd)
  have B := hide (fun c hc h0 => rn_bad (l := s.data.toList) (c := c) hc h0)
  have NX := hide (fun k (h : k < s.data.toList.length) => val_take h)
  have LL := hide hl
  have go : ∀ (q : (decide ((1 : Int) < (s.size : Int)) = false) ∨ (decide ((1 : Int) < (s.size : Int)) = true ∧ ((s[0].toNat : Int) == 48) = false)), Calls Tryd.prog 61 #[.string s] w fun e w' => e = .returned (.tuple #[.int .i64 (rnV s.data.toList), .bool (rnB s.data.toList)]) ∧ w = w' := by
    intro q
    have Q : ((1 : Int) < (s.size : Int) → ¬ (s[0].toNat : Int) = 48) := fun h h' => hz ⟨by omega, by omega⟩
    have q1 : decide ((s.size : Int) < 1) = false := decide_eq_false (by omega)
    have q2 : decide ((9 : Int) < (s.size : Int)) = false := decide_eq_false (by omega)
    clear hz HH
    rcases q with q | ⟨q, q'⟩
    all_goals
      go_enter Tryd.func61, Tryd.ntmps61
      go_wp2
      clear Q
      go_loop [4, 5] (fun v4 v5 => ∃ k : Nat, k ≤ s.size ∧ v5 = .int .i64 k ∧ v4 = .int .i64 ((valL 0 (s.data.toList.take k) : Nat) : Int) ∧ Hid (∀ c ∈ s.data.toList.take k, isDg c)) (fun _ v5 => s.size - (intOf v5).toNat)
      case atStart => exact ⟨0, Nat.zero_le _, rfl, rfl, hide (by simp)⟩
      case round =>
        obtain ⟨k, hk, rfl, rfl, HD⟩ := hrel
        by_cases hlt : k < s.size
        · have hbd := byteD s[k]
          have hkl : k < s.data.toList.length := by rw [LL.out]; exact hlt
          have eg : s.data.toList[k] = s[k] := rfl
          have N1 := NX.out k hkl
          rw [eg] at N1
          have hmem : s[k] ∈ s.data.toList := by rw [← eg]; exact List.getElem_mem hkl
          have BK := hide (fun (h0 : ¬ isDg s[k]) => B.out s[k] hmem h0)
          have DK : Hid (isDg s[k] → ∀ c ∈ s.data.toList.take (k + 1), isDg c) := hide fun h0 c hc => by
            rw [List.take_succ_eq_append_getElem hkl] at hc
            rcases List.mem_append.1 hc with h | h
            · exact HD.out c h
            · rw [List.mem_singleton.1 h, eg]; exact h0
          have hv := valL_lt (s.data.toList.take k) HD.out 0
          have hp : 10 ^ (s.data.toList.take k).length ≤ 10 ^ 8 := Nat.pow_le_pow_right (by decide) (by simp; omega)
          have e8 : (10 : Nat) ^ 8 = 100000000 := by decide
          have hv2 : valL 0 (s.data.toList.take k) < 100000000 := by omega
          have NH := hide N1
          clear N1 hmem hv hp e8 eg
          unfold isDg at BK DK
          generalize valL 0 (s.data.toList.take k) = v at *
          generalize hd : s[k].toNat = d at *
          by_cases d1 : d < 48
          · have E := hide (BK.out (by omega))
            have q1 : decide ((d : Int) < 48) = true := decide_eq_true (by omega)
            go_wp2
            go_ret2
            exact ⟨by rw [E.out.1, E.out.2]; rfl, rfl⟩
          · have q1 : decide ((d : Int) < 48) = false := decide_eq_false (by omega)
            by_cases d2 : 57 < d
            · have E := hide (BK.out (by omega))
              have q2 : decide ((57 : Int) < (d : Int)) = true := decide_eq_true (by omega)
              go_wp2
              go_ret2
              exact ⟨by rw [E.out.1, E.out.2]; rfl, rfl⟩
            · have q2 : decide ((57 : Int) < (d : Int)) = false := decide_eq_false (by omega)
              have U := u8_digit (show 48 ≤ d by omega) (by omega)
              have D2 := hide (DK.out (by omega))
              have e1 : NH.out = NH.out := rfl
              obtain ⟨x, hx⟩ : ∃ x, x = d - 48 := ⟨_, rfl⟩
              rw [← hx] at U NH
              have hx9 : x ≤ 9 := by omega
              have m1 := IntWalk.i64_in (10 * (v : Int)) (by omega)
              have m2 := IntWalk.i64_in (10 * (v : Int) + (x : Int)) (by omega)
              clear e1 hx
              go_wp2
              go_round
              case rel => exact ⟨k + 1, by omega, by go_num, by rw [NH.out]; go_num, D2⟩
              case measure => simp [intOf]; omega
        · have e : k = s.size := by omega
          subst e
          have et : s.data.toList.take s.size = s.data.toList := List.take_of_length_le (by rw [LL.out]; exact Nat.le_refl _)
          rw [et] at HD ⊢
          have E := hide (G.out HD.out)
          clear et HD
          generalize valL 0 s.data.toList = v at *
          go_wp2
          go_ret2
          exact ⟨by rw [E.out.1, E.out.2]; rfl, rfl⟩
  by_cases hq : 1 < s.size
  · exact go (.inr ⟨decide_eq_true (by omega), by simp; intro h; exact hz ⟨hq, by omega⟩⟩)
  · exact go (.inl (decide_eq_false (by omega)))
end Go.Proofs.YtaaadejamjbcbaaDoor
