/- Parts of one proof, joined: Bytes of strings: the rest of a string from a place on. The reference's parts (sewershedref19) of a string between bytes of a kind: what it returns; nothing that was there is turned. Decimal integers of at most nine digits as the reference reads them; plain facts. (Cut out of XNum by gen_itr.py.). Decimal integers without sign of at most nine digits: the reference's number (sewershedref19): what it returns; nothing that was there is turned. The reference's read of a line of a table (sewershedref19): what it returns; nothing that was there is turned. (Printed by gen_itr.py.). The reference's ascends, Within, place and row: what each returns; each draws at most. The reference's Valid (printed by gen_rvalid.py). The reference's Parse of a table (sewershedref19): what it returns; nothing that was there is turned. (Printed by gen_itr.py.). -/
import Derived.Test.YtnhimgabcljahaaGreatDoorDecP
import Derived.Test.YtnhimgabcljahaaGreatDoorWrd
import Derived.Test.YtnhimgabcljahaaGreatDoorNumP
import Derived.Test.YtnhimgabcljahaaGreatDoorItNs
import Derived.Test.YtnhimgabcljahaaGreatDoorGrw
import Derived.Test.YtnhimgabcljahaaGreatDoorItVal
import Derived.Test.YtnhimgabcljahaaGreatDoorWd
import Derived.Test.YtnhimgabcljahaaGreatDoorItPg
import Derived.Test.YtnhimgabcljahaaGreatDoorHeldW
import Derived.Test.YtnhimgabcljahaaGreatDoorItPr
import Derived.Test.YtnhimgabcljahaaGreatDoorOwn3
namespace Go.Proofs.YtnhimgabcljahaaGreatDoor
open Go Go.RowKit

theorem drop_byteD (s : ByteArray) (k : Nat) (h : k < s.size) : s.data.toList.drop k = s[k] :: s.data.toList.drop (k + 1) := by
  rw [List.drop_eq_getElem_cons (by simpa using h)]; rfl
theorem byteD (b : UInt8) : (0 : Int) ≤ (b.toNat : Int) ∧ (b.toNat : Int) < 256 := ⟨by omega, by have := b.toNat_lt; omega⟩
theorem head_byte (s : ByteArray) (h : 0 < s.size) : s.data.toList.head? = some s[0] := by
  have := drop_byteD s 0 h
  rw [List.drop_zero] at this
  rw [this]; rfl
theorem enc_digit (d : Nat) (h : d < 10) : Utf8.encode (48 + (d : Int)) = ⟨#[UInt8.ofNat (48 + d)]⟩ := by
  have key : ∀ d : Fin 10, Utf8.encode (48 + (d.val : Int)) = ⟨#[UInt8.ofNat (48 + d.val)]⟩ := by decide +kernel
  exact key ⟨d, h⟩
/-- the numeral by its last digit -/
theorem itoa_last {n : Int} {q : Int} {d : Nat} (h : 10 ≤ n.natAbs) (hq : n.tdiv 10 = q) (hd : (n.tmod 10).natAbs = d) : Lib.itoa n = Lib.itoa q ++ [UInt8.ofNat (48 + d)] := by
  have e1 : q.natAbs = n.natAbs / 10 := by rw [← hq, Int.natAbs_tdiv]; rfl
  have e2 : d = n.natAbs % 10 := by rw [← hd, Int.natAbs_tmod]; rfl
  by_cases hn : n < 0
  · have rb : d < 10 := by rw [e2]; exact Nat.mod_lt _ (by decide)
    have rq := Int.tmod_add_mul_tdiv n 10
    rw [hq] at rq
    have qn : q < 0 := by omega
    rw [itoa_neg hn, itoa_neg qn, dec_big (by omega), e1, e2]; rfl
  · have qn : ¬ q < 0 := by
      have : 0 ≤ n.tdiv 10 := Int.tdiv_nonneg (by omega) (by omega)
      omega
    rw [itoa_pos (by omega), itoa_pos (by omega), dec_big (by omega), show n.toNat = n.natAbs by omega, show q.toNat = q.natAbs by omega, e1, e2]
theorem itoa_first {n : Int} {d : Nat} (h : n.natAbs = d) (hd : d < 10) : Lib.itoa n = (if n < 0 then [45] else []) ++ [UInt8.ofNat (48 + d)] := by
  by_cases hn : n < 0
  · rw [itoa_neg hn, if_pos hn, h, dec_small hd]; rfl
  · rw [itoa_pos (by omega), if_neg hn, show n.toNat = d by omega, dec_small hd]; rfl
end Go.Proofs.YtnhimgabcljahaaGreatDoor

namespace Go.Proofs.YtnhimgabcljahaaGreatDoor
open Go Go.RowKit

theorem str_info : (Tryz.prog.info? 9).map (fun i => (i.zero, i.size, i.bytes)) = some (some (.string ByteArray.empty), 1, 16) := by kernel_rfl
theorem ext_str (s : ByteArray) (a b : Nat) : Value.string (s.extract a b) = strV ((s.data.toList.drop a).take (b - a)) := by
  congr 1
  apply ByteArray.ext
  rw [ByteArray.data_extract]
  apply Array.ext'
  simp
/-- the parts so far, and the rest -/
structure PrtRel (c : UInt8) (l : List UInt8) (L : List (List UInt8)) (fr k : Nat) : Prop where
  le : fr ≤ k
  eq : pts c l = L ++ pts c (l.drop fr)
  no : c ∉ (l.drop fr).take (k - fr)
  len : L.length ≤ k
theorem PrtRel.go {c : UInt8} {l : List UInt8} {L : List (List UInt8)} {fr k : Nat} (h : PrtRel c l L fr k) (hk : k < l.length) (hc : ¬ l[k] = c) : PrtRel c l L fr (k + 1) := by
  refine ⟨by have := h.le; omega, h.eq, ?_, by have := h.len; omega⟩
  have e : k + 1 - fr = (k - fr) + 1 := by have := h.le; omega
  have hl : k - fr < (l.drop fr).length := by have := h.le; simp; omega
  rw [e, List.take_succ_eq_append_getElem hl]
  intro hm
  rcases List.mem_append.1 hm with hm | hm
  · exact h.no hm
  · have h2 := List.mem_singleton.1 hm
    rw [List.getElem_drop] at h2
    have e3 : fr + (k - fr) = k := by have := h.le; omega
    simp only [e3] at h2
    exact hc h2.symm
theorem PrtRel.hit {c : UInt8} {l : List UInt8} {L : List (List UInt8)} {fr k : Nat} (h : PrtRel c l L fr k) (hk : k < l.length) (hc : l[k] = c) : PrtRel c l (L ++ [(l.drop fr).take (k - fr)]) (k + 1) (k + 1) := by
  refine ⟨Nat.le_refl _, ?_, by simp, by have := h.len; simp; omega⟩
  have e : l.drop fr = (l.drop fr).take (k - fr) ++ c :: l.drop (k + 1) := by
    have h1 : (l.drop fr).drop (k - fr) = l.drop k := by rw [List.drop_drop]; congr 1; have := h.le; omega
    have h2 : l.drop k = l[k] :: l.drop (k + 1) := List.drop_eq_getElem_cons hk
    rw [hc] at h2
    rw [← h2, ← h1, List.take_append_drop]
  rw [h.eq]
  conv => lhs; rw [e]
  rw [pts_at h.no, List.append_assoc]
  rfl
theorem PrtRel.done {c : UInt8} {l : List UInt8} {L : List (List UInt8)} {fr : Nat} (h : PrtRel c l L fr l.length) : pts c l = L ++ [(l.drop fr).take (l.length - fr)] := by
  have e : (l.drop fr).take (l.length - fr) = l.drop fr := List.take_of_length_le (by simp)
  have := h.no
  rw [e] at this
  rw [h.eq, e, pts_no this]
set_option maxRecDepth 100000 in
set_option maxHeartbeats 2000000 in
theorem parts_any (s : ByteArray) (c : UInt8) (w : World) (hs : s.size ≤ 1000000) : Calls Tryz.prog 22 #[.string s, .int .u8 (c.toNat : Int)] w (SplPost (pts c s.data.toList) w) := by
  obtain ⟨i0, hi0, hz0, hz1, hz2⟩ := info_parts str_info
  have hl : s.data.toList.length = s.size := by simp
  have DN : Hid (∀ L fr, PrtRel c s.data.toList L fr s.size → pts c s.data.toList = L ++ [(s.data.toList.drop fr).take (s.size - fr)]) := hide (fun L fr h => by rw [← hl] at h ⊢; exact h.done)
  have HT : Hid (∀ L fr k, PrtRel c s.data.toList L fr k → (hk : k < s.size) → s[k] = c → PrtRel c s.data.toList (L ++ [(s.data.toList.drop fr).take (k - fr)]) (k + 1) (k + 1)) := hide (fun L fr k h hk hc => h.hit (by rw [hl]; exact hk) hc)
  have GO : Hid (∀ L fr k, PrtRel c s.data.toList L fr k → (hk : k < s.size) → ¬ s[k] = c → PrtRel c s.data.toList L fr (k + 1)) := hide (fun L fr k h hk hc => h.go (by rw [hl]; exact hk) hc)
  have ST : Hid (PrtRel c s.data.toList [] 0 0) := hide ⟨Nat.le_refl _, by simp, by simp, Nat.le_refl _⟩
  have EX := hide (fun a b => ext_str s a b)
  have bc := byteD c
  clear hl
  go_enter Tryz.func22, Tryz.ntmps22
  go_wp2
  go_loopw [5, 6, 7] (fun v5 v6 v7 wr => ∃ (L : List (List UInt8)) (fr k : Nat), k ≤ s.size ∧ fr ≤ k ∧ L.length ≤ k ∧ v7 = .int .i64 k ∧ v6 = .int .i64 fr ∧ Hid (PrtRel c s.data.toList L fr k) ∧
    Hid (Below w.heap.size w wr ∧ wr.ownsRow w.heap.size 9 1 v5 L.length (L.map strV))) (fun _ _ v7 _ => s.size - (intOf v7).toNat)
  case atStart => exact ⟨[], 0, 0, Nat.zero_le _, Nat.le_refl _, Nat.le_refl _, rfl, rfl, ST, hide ⟨Below.refl _ _, World.ownsRow_nil _ _ _ _⟩⟩
  case round =>
    obtain ⟨L, fr, k, hk, hfr, hLk, rfl, rfl, HP, HR⟩ := hrel
    clear ST
    by_cases hlt : k < s.size
    · have hbd := byteD s[k]
      have ek := EX.out fr k
      by_cases hc : s[k] = c
      · have q : ((s[k].toNat : Int) == (c.toNat : Int)) = true := by rw [hc]; simp
        have HP2 := hide (HT.out L fr k HP.out hlt hc)
        clear hc HP
        have eX := hide ek
        clear ek
        go_wp2_with (at_builtin; refine wpList_append_own _ rfl _ _ 56 rfl w.heap.size 9 i0 (.string ByteArray.empty) 1 16 Tryz.underlying56 hi0 hz0 hz1 hz2 rfl (by decide) _ L.length (L.map strV) rfl (HR.out.2.alloc (.cells #[.string (s.extract fr k)] 9)) ⟨wr.heap.size, 0, none⟩ 1 1 [.string (s.extract fr k)] rfl rfl (World.news_of_block (cs := #[.string (s.extract fr k)]) (t := 9) (fr := (0, 0)) (heap_alloc_new wr _)) (by simp [Value.oneCell']) (by unfold maxLen; omega) (by omega) (by have := HR.out.1.size; simp; omega) ?_; intro v' w4 hown4 hgrow _)
        have B5 : Below w.heap.size w w4 := (HR.out.1.alloc HR.out.1.size (.cells #[.string (s.extract fr k)] 9)).grown hgrow (by have := HR.out.1.size; simp; omega) (fun k hk => ((HR.out.2.alloc (.cells #[.string (s.extract fr k)] 9)).lt k hk).1)
        have B4 := hide (And.intro B5 hown4)
        clear B5 hown4 hgrow
        go_roundw
        case rel => exact ⟨L ++ [(s.data.toList.drop fr).take (k - fr)], k + 1, k + 1, by omega, Nat.le_refl _, by simp; omega, by go_num, by go_num, HP2, hide ⟨B4.out.1, by rw [List.map_append, List.length_append]; show World.ownsRow _ _ _ _ _ _ (L.map strV ++ [strV _]); rw [← eX.out]; exact B4.out.2⟩⟩
        case measure => simp [intOf]; omega
      · have q : ((s[k].toNat : Int) == (c.toNat : Int)) = false := by
          simp only [beq_eq_false_iff_ne, ne_eq]
          intro e
          exact hc (UInt8.toNat_inj.1 (by omega))
        have HP2 := hide (GO.out L fr k HP.out hlt hc)
        clear hc HP ek
        go_wp2
        go_roundw
        case rel => exact ⟨L, fr, k + 1, by omega, by omega, by omega, by go_num, rfl, HP2, HR⟩
        case measure => simp [intOf]; omega
    · have e : k = s.size := by omega
      subst e
      have ek := EX.out fr s.size
      have E := hide (DN.out L fr HP.out)
      clear HP
      have eX := hide ek
      clear ek
      go_wp2_with (at_builtin; refine wpList_append_own _ rfl _ _ 56 rfl w.heap.size 9 i0 (.string ByteArray.empty) 1 16 Tryz.underlying56 hi0 hz0 hz1 hz2 rfl (by decide) _ L.length (L.map strV) rfl (HR.out.2.alloc (.cells #[.string (s.extract fr s.size)] 9)) ⟨wr.heap.size, 0, none⟩ 1 1 [.string (s.extract fr s.size)] rfl rfl (World.news_of_block (cs := #[.string (s.extract fr s.size)]) (t := 9) (fr := (0, 0)) (heap_alloc_new wr _)) (by simp [Value.oneCell']) (by unfold maxLen; omega) (by omega) (by have := HR.out.1.size; simp; omega) ?_; intro v' w4 hown4 hgrow _)
      have B5 : Below w.heap.size w w4 := (HR.out.1.alloc HR.out.1.size (.cells #[.string (s.extract fr s.size)] 9)).grown hgrow (by have := HR.out.1.size; simp; omega) (fun k hk => ((HR.out.2.alloc (.cells #[.string (s.extract fr s.size)] 9)).lt k hk).1)
      have hrow : w4.ownsRow w.heap.size 9 1 v' (L.length + 1) ((L ++ [(s.data.toList.drop fr).take (s.size - fr)]).map strV) := by rw [List.map_append]; show w4.ownsRow _ _ _ _ _ (L.map strV ++ [strV _]); rw [← eX.out]; exact hown4
      obtain ⟨A, cp, rfl, hsl, hcp⟩ := StrSl.of_row hrow (by simp; omega)
      have FIN := hide (And.intro B5 (And.intro hsl (And.intro hcp E.out)))
      clear B5 hsl hcp hrow hown4 hgrow E
      go_wp2
      go_ret
      exact ⟨FIN.out.1, A, cp, by rw [FIN.out.2.2.2]; rfl, by rw [FIN.out.2.2.2]; exact FIN.out.2.1, by rw [FIN.out.2.2.2]; exact FIN.out.2.2.1⟩
end Go.Proofs.YtnhimgabcljahaaGreatDoor

namespace Go.Proofs.YtnhimgabcljahaaGreatDoor
open Go Go.RowKit

/-- what the reference's Number returns -/
def rnV (l : List UInt8) : Int := if rnB l then (valL 0 l : Nat) else 0
theorem rn_len {l : List UInt8} (h : ¬ (1 ≤ l.length ∧ l.length ≤ 9)) : rnB l = false ∧ rnV l = 0 := by
  have : rnB l = false := by
    rcases Bool.eq_false_or_eq_true (rnB l) with h1 | h1
    · have := rn_facts h1
      have h2 := List.length_pos_iff.2 this.2.1
      omega
    · exact h1
  exact ⟨this, by unfold rnV; rw [if_neg (by rw [this]; simp)]⟩
theorem rn_zero {l : List UInt8} (h : 1 < l.length) (h0 : l.head? = some 48) : rnB l = false ∧ rnV l = 0 := by
  have : rnB l = false := by
    rcases Bool.eq_false_or_eq_true (rnB l) with h1 | h1
    · exact absurd (by rw [h0]; rfl) ((rn_facts h1).2.2.2 h)
    · exact h1
  exact ⟨this, by unfold rnV; rw [if_neg (by rw [this]; simp)]⟩
theorem rn_bad {l : List UInt8} {c : UInt8} (h : c ∈ l) (h0 : ¬ isDg c) : rnB l = false ∧ rnV l = 0 := by
  have : rnB l = false := by
    rcases Bool.eq_false_or_eq_true (rnB l) with h1 | h1
    · exact absurd ((rn_facts h1).1 c h) h0
    · exact h1
  exact ⟨this, by unfold rnV; rw [if_neg (by rw [this]; simp)]⟩
theorem rn_good {l : List UInt8} (h1 : 1 ≤ l.length) (h9 : l.length ≤ 9) (hz : 1 < l.length → l.head? ≠ some 48) (hd : ∀ c ∈ l, isDg c) : rnB l = true ∧ rnV l = (valL 0 l : Nat) := by
  have : rnB l = true := by
    unfold rnB
    simp only [Bool.and_eq_true, decide_eq_true_eq, Bool.not_eq_true', Bool.and_eq_false_iff, decide_eq_false_iff_not]
    refine ⟨⟨⟨h1, h9⟩, ?_⟩, all_dg.2 hd⟩
    by_cases h : 1 < l.length
    · exact .inr (hz h)
    · exact .inl h
  exact ⟨this, by unfold rnV; rw [if_pos this]⟩
theorem u8_digit {d : Nat} (h1 : 48 ≤ d) (h2 : d ≤ 57) : IntKind.u8.wrap ((d : Int) - 48) = ((d - 48 : Nat) : Int) ∧ IntKind.i64.wrap (((d - 48 : Nat) : Int)) = ((d - 48 : Nat) : Int) := by
  constructor
  · simp [IntKind.wrap, IntKind.signed, IntKind.bits]; omega
  · exact IntWalk.i64_in _ (by omega)
theorem val_take {l : List UInt8} {k : Nat} (h : k < l.length) : valL 0 (l.take (k + 1)) = valL 0 (l.take k) * 10 + (l[k].toNat - 48) := by
  rw [List.take_succ_eq_append_getElem h, valL_append]
  rfl
end Go.Proofs.YtnhimgabcljahaaGreatDoor

namespace Go.Proofs.YtnhimgabcljahaaGreatDoor
open Go Go.RowKit

set_option maxRecDepth 100000 in
set_option maxHeartbeats 2000000 in
theorem rnumber_any (s : ByteArray) (w : World) (hs : s.size ≤ maxLen) : Calls Tryz.prog 40 #[.string s] w fun e w' => e = .returned (.tuple #[.int .i64 (rnV s.data.toList), .bool (rnB s.data.toList)]) ∧ w = w' := by
  unfold maxLen at hs
  have hl : s.data.toList.length = s.size := by simp
  by_cases h1 : 1 ≤ s.size ∧ s.size ≤ 9
  case neg =>
    have E := hide (rn_len (l := s.data.toList) (by rw [hl]; exact h1))
    have q : decide ((s.size : Int) < 1) = true ∨ (decide ((s.size : Int) < 1) = false ∧ decide ((9 : Int) < (s.size : Int)) = true) := by
      rcases Nat.lt_or_ge s.size 1 with h2 | h2
      · exact .inl (decide_eq_true (by omega))
      · exact .inr ⟨decide_eq_false (by omega), decide_eq_true (by omega)⟩
    clear h1 hl
    rcases q with q | ⟨q, q'⟩
    all_goals
      go_enter Tryz.func40, Tryz.ntmps40
      go_wp2
      go_ret2
      exact ⟨by rw [E.out.1, E.out.2]; rfl, rfl⟩
  obtain ⟨h1, h9⟩ := h1
  have HH := hide (head_byte s (by omega))
  have hb0 := byteD s[0]
  by_cases hz : 1 < s.size ∧ s[0].toNat = 48
  · have E := hide (rn_zero (l := s.data.toList) (by rw [hl]; exact hz.1) (by rw [HH.out]; congr 1; exact UInt8.toNat_inj.1 hz.2))
    obtain ⟨hz1, hz2⟩ := hz
    have q0 : ((s[0].toNat : Int) == 48) = true := by simp; omega
    have q1 : decide ((s.size : Int) < 1) = false := decide_eq_false (by omega)
    have q2 : decide ((9 : Int) < (s.size : Int)) = false := decide_eq_false (by omega)
    have q3 : decide ((1 : Int) < (s.size : Int)) = true := decide_eq_true (by omega)
    clear HH hl
    go_enter Tryz.func40, Tryz.ntmps40
    go_wp2
    go_ret2
    exact ⟨by rw [E.out.1, E.out.2]; rfl, rfl⟩
  have G := hide (fun hd => rn_good (l := s.data.toList) (by omega) (by omega) (fun h e => hz ⟨by omega, by rw [HH.out] at e; injection e with e; rw [e]; rfl⟩) hd)
  have B := hide (fun c hc h0 => rn_bad (l := s.data.toList) (c := c) hc h0)
  have NX := hide (fun k (h : k < s.data.toList.length) => val_take h)
  have LL := hide hl
  have go : ∀ (q : (decide ((1 : Int) < (s.size : Int)) = false) ∨ (decide ((1 : Int) < (s.size : Int)) = true ∧ ((s[0].toNat : Int) == 48) = false)), Calls Tryz.prog 40 #[.string s] w fun e w' => e = .returned (.tuple #[.int .i64 (rnV s.data.toList), .bool (rnB s.data.toList)]) ∧ w = w' := by
    intro q
    have Q : ((1 : Int) < (s.size : Int) → ¬ (s[0].toNat : Int) = 48) := fun h h' => hz ⟨by omega, by omega⟩
    have q1 : decide ((s.size : Int) < 1) = false := decide_eq_false (by omega)
    have q2 : decide ((9 : Int) < (s.size : Int)) = false := decide_eq_false (by omega)
    clear hz HH
    rcases q with q | ⟨q, q'⟩
    all_goals
      go_enter Tryz.func40, Tryz.ntmps40
      go_wp2
      clear Q
      go_loop [4, 5] (fun v4 v5 => ∃ k : Nat, k ≤ s.size ∧ v5 = .int .i64 k ∧ v4 = .int .i64 ((valL 0 (s.data.toList.take k) : Nat) : Int) ∧ Hid (∀ c ∈ s.data.toList.take k, isDg c)) (fun _ v5 => s.size - (intOf v5).toNat)
      case atStart => exact ⟨0, Nat.zero_le _, rfl, rfl, hide (by simp)⟩
      case round =>
        obtain ⟨k, hk, rfl, rfl, HD⟩ := hrel
        by_cases hlt : k < s.size
        · have hbd := byteD s[k]
          have hkl : k < s.data.toList.length := by rw [LL.out]; exact hlt
          have eg : s.data.toList[k] = s[k] := rfl
          have N1 := NX.out k hkl
          rw [eg] at N1
          have hmem : s[k] ∈ s.data.toList := by rw [← eg]; exact List.getElem_mem hkl
          have BK := hide (fun (h0 : ¬ isDg s[k]) => B.out s[k] hmem h0)
          have DK : Hid (isDg s[k] → ∀ c ∈ s.data.toList.take (k + 1), isDg c) := hide fun h0 c hc => by
            rw [List.take_succ_eq_append_getElem hkl] at hc
            rcases List.mem_append.1 hc with h | h
            · exact HD.out c h
            · rw [List.mem_singleton.1 h, eg]; exact h0
          have hv := valL_lt (s.data.toList.take k) HD.out 0
          have hp : 10 ^ (s.data.toList.take k).length ≤ 10 ^ 8 := Nat.pow_le_pow_right (by decide) (by simp; omega)
          have e8 : (10 : Nat) ^ 8 = 100000000 := by decide
          have hv2 : valL 0 (s.data.toList.take k) < 100000000 := by omega
          have NH := hide N1
          clear N1 hmem hv hp e8 eg
          unfold isDg at BK DK
          generalize valL 0 (s.data.toList.take k) = v at *
          generalize hd : s[k].toNat = d at *
          by_cases d1 : d < 48
          · have E := hide (BK.out (by omega))
            have q1 : decide ((d : Int) < 48) = true := decide_eq_true (by omega)
            go_wp2
            go_ret2
            exact ⟨by rw [E.out.1, E.out.2]; rfl, rfl⟩
          · have q1 : decide ((d : Int) < 48) = false := decide_eq_false (by omega)
            by_cases d2 : 57 < d
            · have E := hide (BK.out (by omega))
              have q2 : decide ((57 : Int) < (d : Int)) = true := decide_eq_true (by omega)
              go_wp2
              go_ret2
              exact ⟨by rw [E.out.1, E.out.2]; rfl, rfl⟩
            · have q2 : decide ((57 : Int) < (d : Int)) = false := decide_eq_false (by omega)
              have U := u8_digit (show 48 ≤ d by omega) (by omega)
              have D2 := hide (DK.out (by omega))
              have e1 : NH.out = NH.out := rfl
              obtain ⟨x, hx⟩ : ∃ x, x = d - 48 := ⟨_, rfl⟩
              rw [← hx] at U NH
              have hx9 : x ≤ 9 := by omega
              have m1 := IntWalk.i64_in (10 * (v : Int)) (by omega)
              have m2 := IntWalk.i64_in (10 * (v : Int) + (x : Int)) (by omega)
              clear e1 hx
              go_wp2
              go_round
              case rel => exact ⟨k + 1, by omega, by go_num, by rw [NH.out]; go_num, D2⟩
              case measure => simp [intOf]; omega
        · have e : k = s.size := by omega
          subst e
          have et : s.data.toList.take s.size = s.data.toList := List.take_of_length_le (by rw [LL.out]; exact Nat.le_refl _)
          rw [et] at HD ⊢
          have E := hide (G.out HD.out)
          clear et HD
          generalize valL 0 s.data.toList = v at *
          go_wp2
          go_ret2
          exact ⟨by rw [E.out.1, E.out.2]; rfl, rfl⟩
  by_cases hq : 1 < s.size
  · exact go (.inr ⟨decide_eq_true (by omega), by simp; intro h; exact hz ⟨hq, by omega⟩⟩)
  · exact go (.inl (decide_eq_false (by omega)))
end Go.Proofs.YtnhimgabcljahaaGreatDoor

namespace Go.Proofs.YtnhimgabcljahaaGreatDoor
open Go Go.RowKit

def nrV (wd l : List UInt8) : List Int := if nsB wd l = true then nsL l else []
def NrPost (wd l : List UInt8) (w : World) (e : Ending) (w' : World) : Prop :=
  Below w.heap.size w w' ∧ ∃ (A : Option Addr) (c : Nat), e = .returned (.tuple #[.slice A (nrV wd l).length c, .bool (nsB wd l)]) ∧ w'.ownsRow w.heap.size 3 1 (.slice A (nrV wd l).length c) (nrV wd l).length ((nrV wd l).map (Value.int .i64))
theorem NrPost.no {wd x : List UInt8} {w w' : World} (hb : Below w.heap.size w w') (h : nsB wd x = false) : NrPost wd x w (.returned (.tuple #[.slice none 0 0, .bool false])) w' := by
  have e : nrV wd x = [] := by unfold nrV; rw [h]; simp
  exact ⟨hb, none, 0, by rw [e, h]; rfl, by rw [e]; exact World.ownsRow_nil _ _ _ _⟩
theorem NrPost.yes {wd x : List UInt8} {l : List Int} {w w' : World} {A : Option Addr} {c : Nat} (hb : Below w.heap.size w w') (h : nsB wd x = true) (h2 : nsL x = l) (hs : w'.ownsRow w.heap.size 3 1 (.slice A l.length c) l.length (l.map (Value.int .i64))) :
    NrPost wd x w (.returned (.tuple #[.slice A l.length c, .bool true])) w' := by
  have e : nrV wd x = l := by unfold nrV; rw [h, if_pos rfl, h2]
  exact ⟨hb, A, c, by rw [e, h], by rw [e]; exact hs⟩
set_option maxRecDepth 100000 in
set_option maxHeartbeats 4000000 in
theorem rread19_any (s : ByteArray) (wd : List UInt8) (w : World) (hx : s.size ≤ 1000000) (hw : wd.length ≤ 100) : Calls Tryz.prog 23 #[.string s, strV wd, .int .i64 1] w (NrPost wd s.data.toList w) := by
  have X := Own.start w
  have SP := hide (fun W => parts_any s 32 W hx)
  have hsl : s.data.toList.length = s.size := by simp
  generalize s.data.toList = x at *
  have NO := hide (fun w' hb h => NrPost.no (wd := wd) (x := x) (w := w) (w' := w') hb h)
  have PL := hide (fun p (hp : p ∈ pts 32 x) => pts_len p hp)
  have PC := pts_length 32 x
  cases hp : pts 32 x with
  | nil => exact absurd hp (pts_ne 32 _)
  | cons a ws =>
    obtain ⟨nb, nl⟩ := nsB_cons (wd := wd) hp
    rw [hp] at SP PL PC
    have EE := hide nb
    have NL := hide nl
    have WL : Hid (∀ i, i < ws.length → (ws.getD i []).length ≤ 1000000) := hide (fun i hi => by have := PL.out (ws.getD i []) (by simp [hi]); omega)
    rw [List.length_cons] at PC
    clear hp nb nl PL
    have hwl : ws.length ≤ 1000000 := by omega
    clear PC hsl
    have YES := hide (fun w' A c l hb h h2 hs => NrPost.yes (wd := wd) (x := x) (w := w) (w' := w') (A := A) (c := c) (l := l) hb h h2 hs)
    rw [NL.out] at YES
    clear NL
    by_cases ha : a = wd
    case neg =>
      have E := hide (fun w' hb => NO.out w' hb (by rw [EE.out, decide_eq_false ha]; rfl))
      have q1 : (a == wd) = false := by simpa using ha
      have q2 : (a != wd) = true := by simpa using ha
      clear ha
      go_enter Tryz.func23, Tryz.ntmps23
      go_wp2_with fail
      refine (SP.out _).mono ?_
      rintro e w2 ⟨hb, A, c, rfl, hsl, hc⟩
      obtain ⟨b, off, rfl, hbl, hat⟩ := hsl.2 (by simp)
      have c0 := hat 0 (by simp)
      simp only [List.getElem_cons_zero, Nat.add_zero] at c0
      replace X := X.to hb
      clear hb hat hsl
      go_wp2
      exact bodyPost_ret (v := .tuple #[.slice none 0 0, .bool false]) (by simp [results, Tryz.results23, go_sem]) rfl (E.out _ X.1)
    subst ha
    have q1 : (a == a) = true := by simp
    by_cases h0 : 0 < ws.length
    case neg =>
      have E := hide (fun w' hb => NO.out w' hb (by rw [EE.out, decide_eq_false h0]; simp))
      obtain rfl : ws = [] := List.eq_nil_of_length_eq_zero (by omega)
      go_enter Tryz.func23, Tryz.ntmps23
      go_wp2_with fail
      refine (SP.out _).mono ?_
      rintro e w2 ⟨hb, A, c, rfl, hsl, hc⟩
      obtain ⟨b, off, rfl, hbl, hat⟩ := hsl.2 (by simp)
      have c0 := hat 0 (by simp)
      simp only [List.getElem_cons_zero, Nat.add_zero] at c0
      replace X := X.to hb
      clear hb hat hsl
      go_wp2
      exact bodyPost_ret (v := .tuple #[.slice none 0 0, .bool false]) (by simp [results, Tryz.results23, go_sem]) rfl (E.out _ X.1)
    have EW := hide (fun w' i (hi : i < ws.length) (h : rnB (ws.getD i []) = false) hb => NO.out w' hb (by
      rw [EE.out]
      have : ws.all rnB = false := by
        rw [List.all_eq_false]
        exact ⟨ws.getD i [], by simp [hi], by rw [h]; simp⟩
      rw [this]; simp))
    have EY := hide (fun (h : ∀ i, i < ws.length → rnB (ws.getD i []) = true) => (show nsB a x = true by
      rw [EE.out]
      have : ws.all rnB = true := by
        rw [List.all_eq_true]
        intro y hy
        obtain ⟨i, hi, rfl⟩ := List.mem_iff_getElem.1 hy
        have := h i hi
        rw [show ws.getD i [] = ws[i] by simp [hi]] at this
        exact this
      rw [this]; simp [h0]))
    obtain ⟨i0, hi0, hz0, hz1, hz2⟩ := info_parts ns_info
    clear EE NO
    have g9 : decide ((ws.length : Int) + 1 ≤ 1) = false := decide_eq_false (by omega)
    go_enter Tryz.func23, Tryz.ntmps23
    go_wp2_with fail
    refine (SP.out _).mono ?_
    rintro e w2 ⟨hb, A, c, rfl, hsl, hc⟩
    obtain ⟨b, off, rfl, hbl, hat⟩ := hsl.2 (by simp)
    have c0 := hat 0 (by simp)
    simp only [List.getElem_cons_zero, Nat.add_zero] at c0
    have AT : Hid (∀ i, i < ws.length → w2.cell? ⟨b, off + (i + 1), none⟩ = some (strV (ws.getD i []))) := hide (fun i hi => by
      have := hat (i + 1) (by simp; omega)
      rw [this]
      simp [hi])
    replace X := X.to hb
    have XB := hide X.1
    clear hat hsl hb X
    go_wp2
    clear c0 q1 g9
    go_loopw [9, 10] (fun v9 v10 wr => ∃ k : Nat, k ≤ ws.length ∧ v10 = .int .i64 ((k : Int) + 1) ∧ Hid (Below w2.heap.size w2 wr) ∧ Hid (wr.ownsRow w2.heap.size 3 1 v9 k (((ws.take k).map fun w => ((valL 0 w : Nat) : Int)).map (Value.int .i64))) ∧ Hid (∀ i, i < k → rnB (ws.getD i []) = true)) (fun _ v10 _ => ws.length + 1 - (intOf v10).toNat)
    case atStart => exact ⟨0, Nat.zero_le _, rfl, hide (Below.refl _ _), hide (World.ownsRow_nil _ _ _ _), hide (fun i hi => by omega)⟩
    case round =>
      obtain ⟨k, hk, rfl, HB, HR, HA⟩ := hrel
      have XW := hide (below_via XB.out XB.out.size HB.out)
      have i1 := IntWalk.i64_in ((k : Int) + 1 + 1) (by omega)
      by_cases hlt : k < ws.length
      · have g1 : decide ((k : Int) + 1 < (ws.length : Int) + 1) = true := decide_eq_true (by omega)
        have c0 := (HB.out.cell (p := ⟨b, off + (k + 1), none⟩) hbl).trans (AT.out k hlt)
        have lu := WL.out k hlt
        have EK := hide (fun w' h hb => EW.out w' k hlt h hb)
        have HA2 := hide (fun (h : rnB (ws.getD k []) = true) i (hi : i < k + 1) => (show rnB (ws.getD i []) = true by
          by_cases e : i = k
          · subst e; exact h
          · exact HA.out i (by omega)))
        have TK : Hid ((ws.take (k + 1)).map (fun w => ((valL 0 w : Nat) : Int)) = (ws.take k).map (fun w => ((valL 0 w : Nat) : Int)) ++ [((valL 0 (ws.getD k []) : Nat) : Int)]) := hide (by rw [List.take_succ_eq_append_getElem hlt, List.map_append, show ws.getD k [] = ws[k] by simp [hlt]]; rfl)
        have NU := hide (fun W => rnumber_any ⟨(ws.getD k []).toArray⟩ W (by show (ws.getD k []).length ≤ maxLen; unfold maxLen; omega))
        rw [show (⟨(ws.getD k []).toArray⟩ : ByteArray).data.toList = ws.getD k [] by simp] at NU
        have RV : Hid (rnB (ws.getD k []) = true → rnV (ws.getD k []) = ((valL 0 (ws.getD k []) : Nat) : Int)) := hide (fun h => by unfold rnV; rw [if_pos h])
        generalize ws.getD k [] = u at *
        generalize rnV u = v at *
        cases hok : rnB u with
        | false =>
          have E := hide (fun w' hb => EK.out w' hok hb)
          rw [hok] at NU
          clear EK HA2 EW TK HA HR RV hok
          go_wp2_with fail
          refine (NU.out _).mono ?_
          rintro e w3 ⟨rfl, rfl⟩
          go_wp2
          exact bodyPost_ret (v := .tuple #[.slice none 0 0, .bool false]) (by simp [results, Tryz.results23, go_sem]) rfl (E.out _ XW.out)
        | true =>
          have HA3 := hide (HA2.out hok)
          rw [← RV.out hok] at TK
          rw [hok] at NU
          clear EK HA2 EW RV hok
          generalize hR : (ws.take k).map (fun w => ((valL 0 w : Nat) : Int)) = R at *
          clear hR
          go_wp2_with fail
          refine (NU.out _).mono ?_
          rintro e w3 ⟨rfl, rfl⟩
          go_wp2_with (at_builtin; refine wpList_append_own _ rfl _ _ 22 rfl w2.heap.size 3 i0 (.int .i64 0) 1 8 Tryz.underlying22 hi0 hz0 hz1 hz2 rfl (by decide) _ k (R.map (Value.int .i64)) rfl (HR.out.alloc (.cells #[.int .i64 v] 3)) ⟨wr.heap.size, 0, none⟩ 1 1 [.int .i64 v] rfl rfl (World.news_of_block (cs := #[.int .i64 v]) (t := 3) (fr := (0, 0)) (heap_alloc_new wr _)) (by simp [Value.oneCell']) (by unfold maxLen; omega) (by omega) (by have := HB.out.size; simp; omega) ?_; intro v' w5 hown4 hgrow _)
          have B5 : Below w2.heap.size w2 w5 := (HB.out.alloc HB.out.size (.cells #[.int .i64 v] 3)).grown hgrow (by have := HB.out.size; simp; omega) (fun k hk => ((HR.out.alloc (.cells #[.int .i64 v] 3)).lt k hk).1)
          have B5H := hide B5
          have R5H := hide hown4
          clear B5 hown4 hgrow HR HB c0
          go_roundw
          case rel => exact ⟨k + 1, by omega, by go_num, B5H, hide (by rw [TK.out, List.map_append]; exact R5H.out), HA3⟩
          case measure => simp [intOf]; omega
      · obtain rfl : k = ws.length := by omega
        have g1 : decide ((ws.length : Int) + 1 < (ws.length : Int) + 1) = false := decide_eq_false (by omega)
        have OK := hide (EY.out HA.out)
        rw [List.take_length] at HR
        have hr2 : (ws.map fun w => ((valL 0 w : Nat) : Int)).length = ws.length := by simp
        obtain ⟨A', cp, rfl, -⟩ := row_anyG HR.out
        have F := hide (YES.out wr A' cp (ws.map fun w => ((valL 0 w : Nat) : Int)) XW.out OK.out rfl (by rw [hr2]; exact row_monoN HR.out XB.out.size))
        rw [hr2] at F
        clear hr2
        go_wp2
        exact bodyPost_ret (v := .tuple #[.slice A' ws.length cp, .bool true]) (by simp [results, Tryz.results23, go_sem]) rfl F.out
end Go.Proofs.YtnhimgabcljahaaGreatDoor

namespace Go.Proofs.YtnhimgabcljahaaGreatDoor
open Go.RowKit

theorem belowN {B : Nat} {a w : World} (h : Below B a w) (n : Nat) : Below B a (w.drewN n) := ⟨h.os, h.tape, h.output, h.size, h.block⟩
def ascR (l : List Int) (most : Int) : Bool := (List.range l.length).all (okA l most)
theorem ascR_no {l : List Int} {most : Int} {i : Nat} (hi : i < l.length) (h : okA l most i = false) : ascR l most = false := all_range_no hi h
theorem ascR_yes {l : List Int} {most : Int} (h : ∀ i, i < l.length → okA l most i = true) : ascR l most = true := all_range.2 h
set_option maxHeartbeats 4000000 in
theorem rfascends_any (l : List Int) (A : Option Addr) (cap : Nat) (most : Int) (w : World) (hl : IntSl w A l) :
    Calls Tryz.prog 28 #[.slice A l.length cap, .int .i64 most] w fun e w' => e = .returned (.bool (ascR l most)) ∧ ∃ d, w' = w.drewN d := by
  have hlen : l.length ≤ 9223372036854775807 := hl.1.1
  have HL := hide hl
  clear hl
  go_enter Tryz.func28, Tryz.ntmps28
  go_wp2
  go_loopw [5] (fun v wr => ∃ k : Nat, k ≤ l.length ∧ v = .int .i64 k ∧ (∃ d, wr = w.drewN d) ∧ Hid (∀ i, i < k → okA l most i = true)) (fun v _ => l.length - (intOf v).toNat)
  case atStart => exact ⟨0, Nat.zero_le _, rfl, ⟨0, by simp [World.drewN_zero]⟩, hide (fun _ h => by omega)⟩
  case round =>
    obtain ⟨k, hk, rfl, ⟨d, rfl⟩, hno⟩ := hrel
    by_cases hlt : k < l.length
    · obtain ⟨b, off, rfl, hbl, hat⟩ := HL.out.at_ (by omega)
      have c0 := hat k hlt
      have step : Hid (okA l most k = true → ∀ i, i < k + 1 → okA l most i = true) := hide fun h i hi => by
        by_cases e : i = k
        · subst e; exact h
        · exact hno.out i (by omega)
      have stop := hide (@ascR_no l most k hlt)
      cases k with
      | zero =>
        clear hat
        have k0 : (0 : Int) < (l.length : Int) := by omega
        rw [Nat.add_zero] at c0
        have HX := hide (@okA_zero l most (l.getD 0 0) rfl)
        generalize l.getD 0 0 = x at *
        have t : x < 1 ∨ (1 ≤ x ∧ most < x) ∨ (1 ≤ x ∧ x ≤ most) := by omega
        rcases t with t | ⟨t1, t2⟩ | ⟨t1, t2⟩
        · have q1 : decide (x < 1) = true := decide_eq_true t
          have TT := hide (And.intro (And.intro t trivial) trivial)
          clear t
          go_wp2
          go_quiet (fail)
          go_wp2
          go_ret
          exact ⟨ret_bool (stop.out (by rw [HX.out]; have := TT.out; simp; omega)).symm, d + nq, by first | (rw [World.drewN_drewN]) | (exact rfl)⟩
        · have q1 : decide (x < 1) = false := decide_eq_false (by omega)
          have q2 : decide (most < x) = true := decide_eq_true (by omega)
          have TT := hide (And.intro t1 (And.intro t2 trivial))
          clear t1 t2
          go_wp2
          go_quiet (fail)
          go_wp2
          go_ret
          exact ⟨ret_bool (stop.out (by rw [HX.out]; have := TT.out; simp; omega)).symm, d + nq, by first | (rw [World.drewN_drewN]) | (exact rfl)⟩
        · have q1 : decide (x < 1) = false := decide_eq_false (by omega)
          have q2 : decide (most < x) = false := decide_eq_false (by omega)
          have TT := hide (And.intro t1 (And.intro t2 trivial))
          clear t1 t2
          go_wp2
          go_quiet (fail)
          go_wp2
          go_roundw
          case rel => exact ⟨1, by omega, by go_num, ⟨d + nq, by first | (rw [World.drewN_drewN]) | (exact rfl)⟩, hide (step.out (by rw [HX.out]; have := TT.out; simp; omega))⟩
          case measure => simp [intOf]; omega
      | succ j =>
        have c1 := hat j (by omega)
        clear hat
        have HX := hide (@okA_succ l most (l.getD (j + 1) 0) (l.getD j 0) j rfl rfl)
        have p1 : (0 : Int) < (j : Int) + 1 := by omega
        have p2 : (0 : Int) ≤ (j : Int) + 1 := by omega
        have p3 : (0 : Int) ≤ (j : Int) := by omega
        have p4 : (j : Int) < (l.length : Int) := by omega
        have p5 : (j : Int) + 1 < (l.length : Int) := by omega
        generalize l.getD (j + 1) 0 = x at *
        generalize l.getD j 0 = y at *
        have t : x < 1 ∨ (1 ≤ x ∧ most < x) ∨ (1 ≤ x ∧ x ≤ most ∧ x ≤ y) ∨ (1 ≤ x ∧ x ≤ most ∧ y < x) := by omega
        rcases t with t | ⟨t1, t2⟩ | ⟨t1, t2, t3⟩ | ⟨t1, t2, t3⟩
        · have q1 : decide (x < 1) = true := decide_eq_true t
          have TT := hide (And.intro (And.intro t trivial) trivial)
          clear t
          go_wp2
          go_quiet (fail)
          go_wp2
          go_ret
          exact ⟨ret_bool (stop.out (by rw [HX.out]; have := TT.out; simp; omega)).symm, d + nq, by first | (rw [World.drewN_drewN]) | (exact rfl)⟩
        · have q1 : decide (x < 1) = false := decide_eq_false (by omega)
          have q2 : decide (most < x) = true := decide_eq_true (by omega)
          have TT := hide (And.intro t1 (And.intro t2 trivial))
          clear t1 t2
          go_wp2
          go_quiet (fail)
          go_wp2
          go_ret
          exact ⟨ret_bool (stop.out (by rw [HX.out]; have := TT.out; simp; omega)).symm, d + nq, by first | (rw [World.drewN_drewN]) | (exact rfl)⟩
        · have q1 : decide (x < 1) = false := decide_eq_false (by omega)
          have q2 : decide (most < x) = false := decide_eq_false (by omega)
          have q3 : decide (x ≤ y) = true := decide_eq_true (by omega)
          have TT := hide (And.intro t1 (And.intro t2 t3))
          clear t1 t2 t3
          go_wp2
          go_quiet (fail)
          go_wp2
          go_ret
          exact ⟨ret_bool (stop.out (by rw [HX.out]; have := TT.out; simp; omega)).symm, d + nq, by first | (rw [World.drewN_drewN]) | (exact rfl)⟩
        · have q1 : decide (x < 1) = false := decide_eq_false (by omega)
          have q2 : decide (most < x) = false := decide_eq_false (by omega)
          have q3 : decide (x ≤ y) = false := decide_eq_false (by omega)
          have TT := hide (And.intro t1 (And.intro t2 t3))
          clear t1 t2 t3
          go_wp2
          go_quiet (fail)
          go_wp2
          go_roundw
          case rel => exact ⟨j + 1 + 1, by omega, by go_num, ⟨d + nq, by first | (rw [World.drewN_drewN]) | (exact rfl)⟩, hide (step.out (by rw [HX.out]; have := TT.out; simp; omega))⟩
          case measure => simp [intOf]; omega
    · have hv := hide (@ascR_yes l most (fun i hi => hno.out i (by omega)))
      have e : k = l.length := by omega
      subst e
      clear hno
      go_wp2
      go_ret
      exact ⟨ret_bool hv.out.symm, d, rfl⟩
end Go.Proofs.YtnhimgabcljahaaGreatDoor

namespace Go.Proofs.YtnhimgabcljahaaGreatDoor
open Go.RowKit

theorem ascB_eq (l : List Int) (c most : Int) : ascB l c most = (ascR l most && decide (1 ≤ l.length ∧ (l.length : Int) ≤ c)) := rfl
set_option maxRecDepth 100000 in
set_option maxHeartbeats 8000000 in
theorem rfvalid_any (T : Tab) (a : TabA) (w : World) (ht : TabSl w T a) :
    Calls Tryz.prog 11 #[T.val a] w (BoolPost (vT T) w) := by
  obtain ⟨A1, A2, A3, k1, k2, k3⟩ := a
  have X := (Own.start w).alloc #[.slice A1 T.ds.length k1, .slice A2 T.ps.length k2, .slice A3 T.rows.length k3] 25
  have l1 : T.ds.length ≤ 9223372036854775807 := ht.1.1.1
  have l2 : T.ps.length ≤ 9223372036854775807 := ht.2.1.1.1
  have l3 : T.rows.length ≤ 9223372036854775807 := by have := ht.2.2.1.1; unfold maxLen at this; omega
  have HT := hide ht
  clear ht
  have hr := X.r1
  have tt : (T.ds.length < 1) ∨ (1 ≤ T.ds.length ∧ 100 < T.ds.length) ∨ (1 ≤ T.ds.length ∧ T.ds.length ≤ 100 ∧ T.ps.length < 1) ∨ (1 ≤ T.ds.length ∧ T.ds.length ≤ 100 ∧ 1 ≤ T.ps.length ∧ 20 < T.ps.length) ∨
      (1 ≤ T.ds.length ∧ T.ds.length ≤ 100 ∧ 1 ≤ T.ps.length ∧ T.ps.length ≤ 20 ∧ T.rows.length ≠ T.ps.length) ∨ (1 ≤ T.ds.length ∧ T.ds.length ≤ 100 ∧ 1 ≤ T.ps.length ∧ T.ps.length ≤ 20 ∧ T.rows.length = T.ps.length) := by omega
  rcases tt with a1 | ⟨a1, a2⟩ | ⟨a1, a2, a3⟩ | ⟨a1, a2, a3, a4⟩ | ⟨a1, a2, a3, a4, a5⟩ | ⟨a1, a2, a3, a4, t3⟩
  · have V := hide (vT_d (T := T) (by rw [ascB_eq, decide_eq_false (by omega), Bool.and_false]))
    go_enter Tryz.func11, Tryz.ntmps11
    go_wp2
    go_ret
    exact BoolPost.mk V.out X.1
  · have V := hide (vT_d (T := T) (by rw [ascB_eq, decide_eq_false (by omega), Bool.and_false]))
    go_enter Tryz.func11, Tryz.ntmps11
    go_wp2
    go_ret
    exact BoolPost.mk V.out X.1
  · have V := hide (vT_p (T := T) (by rw [ascB_eq, decide_eq_false (by omega), Bool.and_false]))
    go_enter Tryz.func11, Tryz.ntmps11
    go_wp2
    go_ret
    exact BoolPost.mk V.out X.1
  · have V := hide (vT_p (T := T) (by rw [ascB_eq, decide_eq_false (by omega), Bool.and_false]))
    go_enter Tryz.func11, Tryz.ntmps11
    go_wp2
    go_ret
    exact BoolPost.mk V.out X.1
  · have V := hide (vT_n a5)
    have q : ((T.rows.length : Int) != (T.ps.length : Int)) = true := by simp; omega
    clear a5
    go_enter Tryz.func11, Tryz.ntmps11
    go_wp2
    go_ret
    exact BoolPost.mk V.out X.1
  have q : ((T.rows.length : Int) != (T.ps.length : Int)) = false := by simp; omega
  have T3 := hide t3
  clear t3
  have B1 := fun h : ascR T.ds 2592000 = true => (show ascB T.ds 100 2592000 = true by rw [ascB_eq, h, decide_eq_true (by omega)]; rfl)
  have B2 := fun h : ascR T.ps 10000 = true => (show ascB T.ps 20 10000 = true by rw [ascB_eq, h, decide_eq_true (by omega)]; rfl)
  go_enter Tryz.func11, Tryz.ntmps11
  go_wp2_with fail
  refine (rfascends_any T.ds A1 k1 2592000 _ (HT.out.1.below X.1)).mono ?_
  rintro e w' ⟨rfl, d, rfl⟩
  replace X := X.drewN' d
  clear hr
  have hr := X.r1
  generalize World.drewN _ d = W1 at *
  rcases Bool.eq_false_or_eq_true (ascR T.ds 2592000) with t1 | t1
  rotate_left
  · have V := hide (vT_d (T := T) (show ascB T.ds 100 2592000 = false by rw [ascB_eq, t1, Bool.false_and]))
    rw [t1]
    clear B1 B2
    go_wp2
    go_ret
    exact BoolPost.mk V.out X.1
  rw [t1]
  have T1 := hide (B1 t1)
  clear t1 B1
  go_wp2_with fail
  refine (rfascends_any T.ps A2 k2 10000 _ (HT.out.2.1.below X.1)).mono ?_
  rintro e w' ⟨rfl, d2, rfl⟩
  replace X := X.drewN' d2
  clear hr
  have hr := X.r1
  generalize World.drewN _ d2 = W2 at *
  rcases Bool.eq_false_or_eq_true (ascR T.ps 10000) with t1 | t1
  rotate_left
  · have V := hide (vT_p (T := T) (show ascB T.ps 20 10000 = false by rw [ascB_eq, t1, Bool.false_and]))
    rw [t1]
    clear B2
    go_wp2
    go_ret
    exact BoolPost.mk V.out X.1
  rw [t1]
  have T2 := hide (B2 t1)
  clear t1 B2
  go_wp2
  clear q hr a1 a2 a3 a4
  replace X := hide X
  go_loopw [3] (fun v Wq => ∃ k : Nat, k ≤ T.rows.length ∧ v = .int .i64 k ∧ Own w Wq [(w.heap.size, 25, #[.slice A1 T.ds.length k1, .slice A2 T.ps.length k2, .slice A3 T.rows.length k3])] ∧ Hid (∀ i, i < k → okR T i = true)) (fun v _ => T.rows.length - (intOf v).toNat)
  case atStart => exact ⟨0, Nat.zero_le _, rfl, X.out, hide (fun _ h => by omega)⟩
  case round =>
    obtain ⟨k, hk, rfl, Y, hno⟩ := hrel
    clear X
    have hr := Y.r1
    by_cases hlt : k < T.rows.length
    · obtain ⟨b, off, R, c, rfl, hbl, c0, hR⟩ := HT.out.2.2.1.row hlt
      replace c0 := (Y.1.cell (p := ⟨b, off + k, none⟩) hbl).trans c0
      have YH := hide Y
      clear Y
      obtain ⟨row, hrow⟩ : ∃ row, row = T.rows.getD k [] := ⟨_, rfl⟩
      have HW := hide hrow
      have CE : Hid (∀ m, T.cell k m = row.getD m 0) := hide fun m => by rw [HW.out]; rfl
      have STOP := hide (fun h => vT_r (T := T) hlt h)
      have STEP : Hid (okR T k = true → ∀ i, i < k + 1 → okR T i = true) := hide fun h i hi => by
        by_cases e : i = k
        · subst e; exact h
        · exact hno.out i (by omega)
      rw [← hrow] at c0 hR
      have HR := hide hR
      have hrl : row.length ≤ 9223372036854775807 := hR.1.1
      clear hrow hR
      by_cases hl : row.length = T.ds.length
      rotate_left
      · have V := hide (STOP.out (okR_no (by rw [← HW.out]; exact hl)))
        have q : ((row.length : Int) != (T.ds.length : Int)) = true := by simp; omega
        clear hl
        go_wp2
        go_ret
        exact BoolPost.mk V.out YH.out.1
      · have q : ((row.length : Int) != (T.ds.length : Int)) = false := by simp; omega
        have HL := hide hl
        clear hl
        have hrd : row.length ≤ T.ds.length := by rw [HL.out]; omega
        go_wp2
        clear q
        clear hr c0
        go_loopw [5] (fun v Wq => ∃ m : Nat, m ≤ row.length ∧ v = .int .i64 m ∧ Own w Wq [(w.heap.size, 25, #[.slice A1 T.ds.length k1, .slice A2 T.ps.length k2, .slice (some ⟨b, off, none⟩) T.rows.length k3])] ∧ Hid (∀ i, i < m → okC T k i = true)) (fun v _ => row.length - (intOf v).toNat)
        case atStart => exact ⟨0, Nat.zero_le _, rfl, YH.out, hide (fun _ h => by omega)⟩
        case round =>
          obtain ⟨m, hm, rfl, Z0, hnc⟩ := hrel
          clear YH
          have hr := Z0.r1
          have Z := hide Z0
          clear Z0
          by_cases hlm : m < row.length
          · have hmd : m < T.ds.length := by omega
            obtain ⟨b2, off2, rfl, hbl2, hat⟩ := HR.out.at_ (by omega)
            have STOPC := hide (fun h => STOP.out (okR_noC hmd h))
            have STEPC : Hid (okC T k m = true → ∀ i, i < m + 1 → okC T k i = true) := hide fun h i hi => by
              by_cases e : i = m
              · subst e; exact h
              · exact hnc.out i (by omega)
            have d0 := (Z.out.1.cell (p := ⟨b2, off2 + m, none⟩) hbl2).trans (hat m hlm)
            cases k with
            | zero =>
              cases m with
              | zero =>
                rw [Nat.add_zero] at d0
                have OK := hide (okC_00 (T := T) rfl)
                have ex := hide (CE.out 0)
                clear hat hnc
                generalize row.getD 0 0 = x at *
                rw [ex.out] at OK
                have t : (x < 0) ∨ (0 ≤ x ∧ 4194304 < x) ∨ (0 ≤ x ∧ x ≤ 4194304) := by omega
                rcases t with t1 | ⟨t1, t2⟩ | ⟨t1, t2⟩
                · have q1 : decide (x < 0) = true := decide_eq_true (by omega)
                  have TT := hide (And.intro t1 trivial)
                  clear t1
                  go_wp2
                  go_quiet (fail)
                  go_wp2
                  go_ret
                  exact BoolPost.mk (STOPC.out (by rw [OK.out]; have := TT.out; simp; omega)) (Z.out.drewN' nq).1
                · have q1 : decide (x < 0) = false := decide_eq_false (by omega)
                  have q2 : decide (4194304 < x) = true := decide_eq_true (by omega)
                  have TT := hide (And.intro t1 (And.intro t2 trivial))
                  clear t1 t2
                  go_wp2
                  go_quiet (fail)
                  go_wp2
                  go_ret
                  exact BoolPost.mk (STOPC.out (by rw [OK.out]; have := TT.out; simp; omega)) (Z.out.drewN' nq).1
                · have q1 : decide (x < 0) = false := decide_eq_false (by omega)
                  have q2 : decide (4194304 < x) = false := decide_eq_false (by omega)
                  have TT := hide (And.intro t1 (And.intro t2 trivial))
                  clear t1 t2
                  go_wp2
                  go_quiet (fail)
                  go_wp2
                  go_roundw
                  case rel => exact ⟨1, by omega, by go_num, (Z.out.drewN' nq), hide (STEPC.out (by rw [OK.out]; have := TT.out; simp; omega))⟩
                  case measure => simp [intOf]; omega
              | succ m =>
                have d1 := (Z.out.1.cell (p := ⟨b2, off2 + m, none⟩) hbl2).trans (hat m (by omega))
                have OK := hide (okC_0s (T := T) (k := m) rfl rfl)
                have ex := hide (CE.out (m + 1))
                have ey := hide (CE.out m)
                clear hat hnc
                generalize row.getD (m + 1) 0 = x at *
                generalize row.getD m 0 = y at *
                rw [ex.out, ey.out] at OK
                have t : (x < 0) ∨ (0 ≤ x ∧ 4194304 < x) ∨ (0 ≤ x ∧ x ≤ 4194304 ∧ x < y) ∨ (0 ≤ x ∧ x ≤ 4194304 ∧ y ≤ x) := by omega
                rcases t with t1 | ⟨t1, t2⟩ | ⟨t1, t2, t3⟩ | ⟨t1, t2, t3⟩
                · have q1 : decide (x < 0) = true := decide_eq_true (by omega)
                  have TT := hide (And.intro t1 trivial)
                  clear t1
                  go_wp2
                  go_quiet (fail)
                  go_wp2
                  go_ret
                  exact BoolPost.mk (STOPC.out (by rw [OK.out]; have := TT.out; simp; omega)) (Z.out.drewN' nq).1
                · have q1 : decide (x < 0) = false := decide_eq_false (by omega)
                  have q2 : decide (4194304 < x) = true := decide_eq_true (by omega)
                  have TT := hide (And.intro t1 (And.intro t2 trivial))
                  clear t1 t2
                  go_wp2
                  go_quiet (fail)
                  go_wp2
                  go_ret
                  exact BoolPost.mk (STOPC.out (by rw [OK.out]; have := TT.out; simp; omega)) (Z.out.drewN' nq).1
                · have q1 : decide (x < 0) = false := decide_eq_false (by omega)
                  have q2 : decide (4194304 < x) = false := decide_eq_false (by omega)
                  have q3 : decide (x < y) = true := decide_eq_true (by omega)
                  have TT := hide (And.intro t1 (And.intro t2 (And.intro t3 trivial)))
                  clear t1 t2 t3
                  go_wp2
                  go_quiet (fail)
                  go_wp2
                  go_ret
                  exact BoolPost.mk (STOPC.out (by rw [OK.out]; have := TT.out; simp; omega)) (Z.out.drewN' nq).1
                · have q1 : decide (x < 0) = false := decide_eq_false (by omega)
                  have q2 : decide (4194304 < x) = false := decide_eq_false (by omega)
                  have q3 : decide (x < y) = false := decide_eq_false (by omega)
                  have TT := hide (And.intro t1 (And.intro t2 (And.intro t3 trivial)))
                  clear t1 t2 t3
                  go_wp2
                  go_quiet (fail)
                  go_wp2
                  go_roundw
                  case rel => exact ⟨m + 1 + 1, by omega, by go_num, (Z.out.drewN' nq), hide (STEPC.out (by rw [OK.out]; have := TT.out; simp; omega))⟩
                  case measure => simp [intOf]; omega
            | succ k =>
              obtain ⟨b', off', R', c', eA', hbl', c1, hR'⟩ := HT.out.2.2.1.row (i := k) (by omega)
              cases eA'
              obtain ⟨row', hrow'⟩ : ∃ row', row' = T.rows.getD k [] := ⟨_, rfl⟩
              have hl' := okR_len (hno.out k (by omega))
              have CE' : Hid (∀ m, T.cell k m = row'.getD m 0) := hide fun m => by rw [hrow']; rfl
              rw [← hrow'] at c1 hR' hl'
              clear hrow'
              obtain ⟨b3, off3, rfl, hbl3, hat3⟩ := hR'.at_ (by omega)
              have u0 := (Z.out.1.cell (p := ⟨b3, off3 + m, none⟩) hbl3).trans (hat3 m (by omega))
              replace c1 := (Z.out.1.cell (p := ⟨b, off + k, none⟩) hbl).trans c1
              have hm' : (m : Int) < (row'.length : Int) := by omega
              have hm0 : m < row'.length := by omega
              clear hat3 hR' hl'
              cases m with
              | zero =>
                rw [Nat.add_zero] at d0 u0
                have OK := hide (okC_s0 (T := T) (i := k) rfl rfl)
                have ex := hide (CE.out 0)
                have ez := hide (CE'.out 0)
                clear hat hnc
                generalize row.getD 0 0 = x at *
                generalize row'.getD 0 0 = z at *
                rw [ex.out, ez.out] at OK
                have t : (x < 0) ∨ (0 ≤ x ∧ 4194304 < x) ∨ (0 ≤ x ∧ x ≤ 4194304 ∧ x < z) ∨ (0 ≤ x ∧ x ≤ 4194304 ∧ z ≤ x) := by omega
                rcases t with t1 | ⟨t1, t2⟩ | ⟨t1, t2, t3⟩ | ⟨t1, t2, t3⟩
                · have q1 : decide (x < 0) = true := decide_eq_true (by omega)
                  have TT := hide (And.intro t1 trivial)
                  clear t1
                  go_wp2
                  go_quiet (fail)
                  go_wp2
                  go_ret
                  exact BoolPost.mk (STOPC.out (by rw [OK.out]; have := TT.out; simp; omega)) (Z.out.drewN' nq).1
                · have q1 : decide (x < 0) = false := decide_eq_false (by omega)
                  have q2 : decide (4194304 < x) = true := decide_eq_true (by omega)
                  have TT := hide (And.intro t1 (And.intro t2 trivial))
                  clear t1 t2
                  go_wp2
                  go_quiet (fail)
                  go_wp2
                  go_ret
                  exact BoolPost.mk (STOPC.out (by rw [OK.out]; have := TT.out; simp; omega)) (Z.out.drewN' nq).1
                · have q1 : decide (x < 0) = false := decide_eq_false (by omega)
                  have q2 : decide (4194304 < x) = false := decide_eq_false (by omega)
                  have q4 : decide (x < z) = true := decide_eq_true (by omega)
                  have TT := hide (And.intro t1 (And.intro t2 (And.intro t3 trivial)))
                  clear t1 t2 t3
                  go_wp2
                  go_quiet (fail)
                  go_wp2
                  go_ret
                  exact BoolPost.mk (STOPC.out (by rw [OK.out]; have := TT.out; simp; omega)) (Z.out.drewN' nq).1
                · have q1 : decide (x < 0) = false := decide_eq_false (by omega)
                  have q2 : decide (4194304 < x) = false := decide_eq_false (by omega)
                  have q4 : decide (x < z) = false := decide_eq_false (by omega)
                  have TT := hide (And.intro t1 (And.intro t2 (And.intro t3 trivial)))
                  clear t1 t2 t3
                  go_wp2
                  go_quiet (fail)
                  go_wp2
                  go_roundw
                  case rel => exact ⟨1, by omega, by go_num, (Z.out.drewN' nq), hide (STEPC.out (by rw [OK.out]; have := TT.out; simp; omega))⟩
                  case measure => simp [intOf]; omega
              | succ m =>
                have d1 := (Z.out.1.cell (p := ⟨b2, off2 + m, none⟩) hbl2).trans (hat m (by omega))
                have OK := hide (okC_ss (T := T) (i := k) (k := m) rfl rfl rfl)
                have ex := hide (CE.out (m + 1))
                have ey := hide (CE.out m)
                have ez := hide (CE'.out (m + 1))
                clear hat hnc
                generalize row.getD (m + 1) 0 = x at *
                generalize row.getD m 0 = y at *
                generalize row'.getD (m + 1) 0 = z at *
                rw [ex.out, ey.out, ez.out] at OK
                have t : (x < 0) ∨ (0 ≤ x ∧ 4194304 < x) ∨ (0 ≤ x ∧ x ≤ 4194304 ∧ x < y) ∨ (0 ≤ x ∧ x ≤ 4194304 ∧ y ≤ x ∧ x < z) ∨ (0 ≤ x ∧ x ≤ 4194304 ∧ y ≤ x ∧ z ≤ x) := by omega
                rcases t with t1 | ⟨t1, t2⟩ | ⟨t1, t2, t3⟩ | ⟨t1, t2, t3, t4⟩ | ⟨t1, t2, t3, t4⟩
                · have q1 : decide (x < 0) = true := decide_eq_true (by omega)
                  have TT := hide (And.intro t1 trivial)
                  clear t1
                  go_wp2
                  go_quiet (fail)
                  go_wp2
                  go_ret
                  exact BoolPost.mk (STOPC.out (by rw [OK.out]; have := TT.out; simp; omega)) (Z.out.drewN' nq).1
                · have q1 : decide (x < 0) = false := decide_eq_false (by omega)
                  have q2 : decide (4194304 < x) = true := decide_eq_true (by omega)
                  have TT := hide (And.intro t1 (And.intro t2 trivial))
                  clear t1 t2
                  go_wp2
                  go_quiet (fail)
                  go_wp2
                  go_ret
                  exact BoolPost.mk (STOPC.out (by rw [OK.out]; have := TT.out; simp; omega)) (Z.out.drewN' nq).1
                · have q1 : decide (x < 0) = false := decide_eq_false (by omega)
                  have q2 : decide (4194304 < x) = false := decide_eq_false (by omega)
                  have q3 : decide (x < y) = true := decide_eq_true (by omega)
                  have TT := hide (And.intro t1 (And.intro t2 (And.intro t3 trivial)))
                  clear t1 t2 t3
                  go_wp2
                  go_quiet (fail)
                  go_wp2
                  go_ret
                  exact BoolPost.mk (STOPC.out (by rw [OK.out]; have := TT.out; simp; omega)) (Z.out.drewN' nq).1
                · have q1 : decide (x < 0) = false := decide_eq_false (by omega)
                  have q2 : decide (4194304 < x) = false := decide_eq_false (by omega)
                  have q3 : decide (x < y) = false := decide_eq_false (by omega)
                  have q4 : decide (x < z) = true := decide_eq_true (by omega)
                  have TT := hide (And.intro t1 (And.intro t2 (And.intro t3 (And.intro t4 trivial))))
                  clear t1 t2 t3 t4
                  go_wp2
                  go_quiet (fail)
                  go_wp2
                  go_ret
                  exact BoolPost.mk (STOPC.out (by rw [OK.out]; have := TT.out; simp; omega)) (Z.out.drewN' nq).1
                · have q1 : decide (x < 0) = false := decide_eq_false (by omega)
                  have q2 : decide (4194304 < x) = false := decide_eq_false (by omega)
                  have q3 : decide (x < y) = false := decide_eq_false (by omega)
                  have q4 : decide (x < z) = false := decide_eq_false (by omega)
                  have TT := hide (And.intro t1 (And.intro t2 (And.intro t3 (And.intro t4 trivial))))
                  clear t1 t2 t3 t4
                  go_wp2
                  go_quiet (fail)
                  go_wp2
                  go_roundw
                  case rel => exact ⟨m + 1 + 1, by omega, by go_num, (Z.out.drewN' nq), hide (STEPC.out (by rw [OK.out]; have := TT.out; simp; omega))⟩
                  case measure => simp [intOf]; omega
          · have OKR := hide (okR_yes (by rw [← HW.out]; exact HL.out) (fun i hi => hnc.out i (by have := HL.out; omega)))
            clear hnc
            go_wp2
            go_roundw
            case rel => exact ⟨k + 1, by omega, by go_num, Z.out, hide (STEP.out OKR.out)⟩
            case measure => simp [intOf]; omega
    · have V := hide (vT_yes T1.out T2.out T3.out (fun i hi => hno.out i (by omega)))
      clear hno
      go_wp2
      go_ret
      exact BoolPost.mk V.out Y.1
end Go.Proofs.YtnhimgabcljahaaGreatDoor

namespace Go.Proofs.YtnhimgabcljahaaGreatDoor
open Go Go.RowKit

theorem Pg.base {w w1 W : World} {B : Nat} {R : List (Nat × TypeId × Array Value)} {D P V : Value} {d0 : Option (List Int)} {ps : List Int} {VL : List Value} {rs : List (List Int)} (h : Pg w1 W B R D P V d0 ps VL rs) (hb : Below w.heap.size w W) (hB : w.heap.size ≤ B) : Pg w W B R D P V d0 ps VL rs :=
  ⟨⟨hb, h.own.2⟩, ⟨h.b2.1, hB⟩, h.ltR, h.d, h.p, h.v, h.r⟩
theorem Pg.out3 {w W : World} {B b : Nat} {R : List (Nat × TypeId × Array Value)} {D P V : Value} {d0 : Option (List Int)} {ps : List Int} {VL : List Value} {rs : List (List Int)} (h : Pg w W B R D P V d0 ps VL rs) (hb : w.heap.size ≤ b) (hB : b < B) (hR : ∀ x ∈ R, x.1 ≠ b) (x0 x1 x2 : Value) :
    Pg w (((W.setCell ⟨b, 0, none⟩ x0).setCell ⟨b, 1, none⟩ x1).setCell ⟨b, 2, none⟩ x2) B R D P V d0 ps VL rs := by
  have k : ∀ (W : World) (i : Nat) (u : Value), W.grownBy (W.setCell ⟨b, i, none⟩ u) (some b) := fun W i u => ⟨rfl, rfl, rfl, by simp [World.setCell], fun k _ hne => Below.heap_setCell W ⟨b, i, none⟩ u k (fun e => hne (by rw [e]))⟩
  exact ((h.box (k _ _ _) hb hB hR).box (k _ _ _) hb hB hR).box (k _ _ _) hb hB hR
theorem Pg.fieldR {w W : World} {B b : Nat} {X Y Z D P V D' P' V' : Value} {d0 : Option (List Int)} {ps : List Int} {VL : List Value} {rs : List (List Int)} (h : Pg w W B [(b, 25, #[D, P, V])] D' P' V' d0 ps VL rs) (hb : w.heap.size ≤ b) (i : Nat) (u : Value) (e : #[X, Y, Z] = (#[D, P, V] : Array Value).setIfInBounds i u) :
    Pg w (W.setCell ⟨b, i, none⟩ u) B [(b, 25, #[X, Y, Z])] D' P' V' d0 ps VL rs :=
  Pg.turnR (R1 := []) (R2 := []) h hb (fun x hx => by simp at hx) i u e
def RptPost (s : List UInt8) (w : World) (e : Ending) (w' : World) : Prop :=
  Below w.heap.size w w' ∧ ∃ a : TabA, e = .returned (.tuple #[(prF s).1.val a, .int .i64 (prF s).2.1, .int .i64 (prF s).2.2]) ∧ TabSl w' (prF s).1 a
theorem RptPost.err {s : List UInt8} {w w' : World} {ln er : Int} (hb : Below w.heap.size w w') (h : prF s = (T0, ln, er)) : RptPost s w (.returned (.tuple #[.agg #[.slice none 0 0, .slice none 0 0, .slice none 0 0], .int .i64 ln, .int .i64 er])) w' :=
  ⟨hb, aN, by rw [h]; rfl, by rw [h]; exact tabN _⟩
set_option maxRecDepth 100000 in
set_option maxHeartbeats 4000000 in
theorem rparse19_any (s : ByteArray) (w : World) (hs : s.size ≤ 900000) : Calls Tryz.prog 7 #[.string s] w (RptPost s.data.toList w) := by
  have hsl : s.data.toList.length = s.size := by simp
  have X := (Own.start w).alloc #[.slice none 0 0, .slice none 0 0, .slice none 0 0] 25
  have hr := X.r1
  by_cases hbig : 262144 < s.size
  · have E : Hid (prF s.data.toList = (T0, 0, 4)) := hide (by unfold prF; rw [if_pos (by rw [hsl]; exact hbig)])
    have q1 : decide ((262144 : Int) < (s.size : Int)) = true := decide_eq_true (by omega)
    clear hbig hsl
    go_enter Tryz.func7, Tryz.ntmps7
    go_wp2
    exact bodyPost_ret (v := .tuple #[.agg #[.slice none 0 0, .slice none 0 0, .slice none 0 0], .int .i64 0, .int .i64 4]) (by simp [results, Tryz.results7, hr, go_sem]) rfl (RptPost.err (by have HX := X.1; have hz := HX.size; go_grown) E.out)
  have q1 : decide ((262144 : Int) < (s.size : Int)) = false := decide_eq_false (by omega)
  have EF : Hid (prF s.data.toList = prT (pts 10 s.data.toList) []) := hide (by unfold prF; rw [if_neg (by rw [hsl]; exact hbig)])
  have SP := hide (fun W => parts_any s 10 W (by omega))
  have PL := hide (fun p (hp : p ∈ pts 10 s.data.toList) => pts_len p hp)
  have PN := List.length_pos_iff.2 (pts_ne 10 s.data.toList)
  have PB := pts_length 10 s.data.toList
  rw [hsl] at PB PL
  clear hbig hsl
  generalize s.data.toList = l at *
  generalize hps : pts 10 l = ps at *
  clear hps
  have HX := hide X
  clear X
  go_enter Tryz.func7, Tryz.ntmps7
  go_wp2_with fail
  refine (SP.out _).mono ?_
  rintro e w1 ⟨hb1, A, cp, rfl, hws, hcp⟩
  replace HX := hide (HX.out.to hb1)
  have HW := hide hws
  have Z0 : Hid (Pg w1 (w1.alloc (.cells #[.slice none 0 0, .slice none 0 0, .slice none 0 0] 25)) (w1.heap.size + 1) [(w1.heap.size, 25, #[.slice none 0 0, .slice none 0 0, .slice none 0 0])] (.slice none 0 0) (.slice none 0 0) (.slice none 0 0) none [] [] []) :=
    hide ⟨(Own.start w1).alloc _ _, ⟨by simp, by omega⟩, fun x hx => by
      rw [List.mem_singleton.1 hx]
      refine ⟨?_, ?_, ?_⟩ <;> dsimp only <;> first | omega | decide, .inl ⟨rfl, rfl⟩, World.ownsRow_nil _ _ _ _, World.ownsRow_nil _ _ _ _, rfl, fun i hi => by simp at hi⟩
  clear hws hb1 SP hr
  go_wp2
  go_loopw [7] (fun v7 wr => ∃ (k : Nat) (acc : List (List Int)) (D P V : Value) (VL : List Value), k < ps.length ∧ v7 = .int .i64 (k : Int) ∧ Hid (acc.length = k ∧ (∀ y ∈ acc, y ≠ [] ∧ ∀ n ∈ y, numR n) ∧ ∀ y ∈ acc, y.length ≤ 900001) ∧ Hid (prT ps [] = prT (ps.drop k) acc) ∧
    Hid (Pg w1 wr (w1.heap.size + 1) [(w1.heap.size, 25, #[D, P, V])] D P V acc.head? (acc.tail.map (·.getD 0 0)) VL acc.tail)) (fun v7 _ => ps.length - (intOf v7).toNat)
  case atStart => exact ⟨0, [], _, _, _, [], PN, rfl, hide ⟨rfl, fun y hy => by simp at hy, fun y hy => by simp at hy⟩, hide rfl, Z0⟩
  case round =>
    obtain ⟨k, acc, D, P, V, VL, hk, rfl, AL, HP, Y⟩ := hrel
    clear Z0
    obtain ⟨b, off, rfl, hbl, hat⟩ := (HW.out.below Y.out.own.1).2 (by omega)
    have c0 := hat k hk
    clear hat
    have hdr : ps.drop k = ps[k] :: ps.drop (k + 1) := List.drop_eq_getElem_cons hk
    have lp := PL.out ps[k] (List.getElem_mem hk)
    have i1 := IntWalk.i64_in ((ps.length : Int) - 1) (by omega)
    have i2 := IntWalk.i64_in ((k : Int) + 1) (by omega)
    have hrB := (HX.out.to Y.out.own.1).r1
    have hrT := Y.out.own.r1
    by_cases hlast : k + 1 = ps.length
    · have hd2 : ps.drop (k + 1) = [] := by rw [hlast]; simp
      have hp := HP.out
      rw [hdr, hd2, prT] at hp
      have q2 : ((k : Int) == (ps.length : Int) - 1) = true := by simp; omega
      clear hdr hd2 HP
      by_cases hA : 0 < k ∧ ps[k] = []
      · obtain ⟨h0, he⟩ := hA
        have qk : decide ((0 : Int) < (k : Int)) = true := decide_eq_true (by omega)
        have qk2 : decide (0 < k) = true := decide_eq_true h0
        have hne : acc ≠ [] := by
          intro e
          have := AL.out.1
          rw [e] at this
          simp at this
          omega
        rw [if_pos ⟨hne, he⟩] at hp
        rw [he] at c0
        have PH := hide (EF.out.trans hp)
        obtain ⟨d, r, rfl⟩ : ∃ d r, acc = d :: r := by
          cases acc with
          | nil => exact absurd rfl hne
          | cons d r => exact ⟨d, r, rfl⟩
        have hd := AL.out.2.1 d (List.mem_cons_self ..)
        have hd2 := AL.out.2.2 d (List.mem_cons_self ..)
        have lr : r.length ≤ 900001 := by have := AL.out.1; simp at this; omega
        obtain ⟨⟨A1, A2, A3, k1, k2, k3⟩, e1, e2, e3, hT⟩ := Pg.tab (rs := r) (d := d) Y.out hd.2 (fun y hy => AL.out.2.1 y (List.mem_cons_of_mem _ hy)) hd2 (fun y hy => AL.out.2.2 y (List.mem_cons_of_mem _ hy)) lr
        have V1 := hide (fun W h => rfvalid_any (tbO (d :: r)) ⟨A1, A2, A3, k1, k2, k3⟩ W h)
        have tl : Hid (tL (d :: r) = if vT (tbO (d :: r)) = true then tbO (d :: r) else T0) := hide rfl
        have te : Hid (tE (d :: r) = if vT (tbO (d :: r)) = true then 0 else 1) := hide rfl
        have hT := hide hT
        have TB := hide (fun W1 R (Z : Pg w W1 (w1.heap.size + 1) R D P V (some d) (r.map (·.getD 0 0)) VL r) => (show TabSl W1 (tbO (d :: r)) ⟨A1, A2, A3, k1, k2, k3⟩ by
          obtain ⟨⟨B1, B2, B3, j1, j2, j3⟩, f1, f2, f3, h⟩ := Pg.tab (rs := r) (d := d) Z hd.2 (fun y hy => AL.out.2.1 y (List.mem_cons_of_mem _ hy)) hd2 (fun y hy => AL.out.2.2 y (List.mem_cons_of_mem _ hy)) lr
          rw [e1] at f1
          rw [e2] at f2
          rw [e3] at f3
          injection f1 with f1 _ g1
          injection f2 with f2 _ g2
          injection f3 with f3 _ g3
          dsimp only at f1 f2 f3 g1 g2 g3
          subst f1 f2 f3 g1 g2 g3
          exact h))
        have YP : Hid (Pg w1 wr (w1.heap.size + 1) [(w1.heap.size, 25, #[D, P, V])] D P V (some d) (r.map (·.getD 0 0)) VL r) := hide Y.out
        have YH : Hid (Own w1 wr [(w1.heap.size, 25, #[D, P, V])]) := hide Y.out.own
        clear hp hne he hd hd2 lr AL Y lp PL hlast
        generalize tL (d :: r) = tl' at *
        generalize tE (d :: r) = te' at *
        generalize tbO (d :: r) = T at *
        unfold BoolPost at V1
        subst e1 e2 e3
        have hr1 := YH.out.r1
        go_wp2_with fail
        refine (V1.out _ hT.out).mono ?_
        rintro e w3 ⟨rfl, hb⟩
        have Y3 := hide (YH.out.to hb)
        have X3 := hide ((HX.out.to YH.out.1).to hb)
        have lw := (show w.heap.size + 1 ≤ w1.heap.size from HX.out.r1.2.2)
        have Z3 := hide ((YP.out.to hb).base X3.out.1 (by omega))
        clear hr1 hrB hrT hb YH hT V1 c0 YP
        have hr1 := Y3.out.r1
        have hr2 := X3.out.r1
        have bb : w.heap.size < w3.heap.size := X3.out.r1.2.2
        rcases Bool.eq_false_or_eq_true (vT T) with hv | hv
        · have E : Hid (prF l = (T, 0, 0)) := hide (by rw [PH.out, tl.out, te.out, hv]; rfl)
          rw [hv]
          clear PH tl te EF hv
          go_wp2
          have Z4 := Z3.out.out3 (b := w.heap.size) (Nat.le_refl _) (by omega) (fun x hx => by rw [List.mem_singleton.1 hx]; show w1.heap.size ≠ w.heap.size; omega) (.slice A1 T.ds.length k1) (.slice A2 T.ps.length k2) (.slice A3 T.rows.length k3)
          exact bodyPost_ret (v := .tuple #[.agg #[.slice A1 T.ds.length k1, .slice A2 T.ps.length k2, .slice A3 T.rows.length k3], .int .i64 0, .int .i64 0]) (by simp [results, Tryz.results7, hr2, go_sem]) rfl
            ⟨Z4.own.1, ⟨A1, A2, A3, k1, k2, k3⟩, by rw [E.out], by rw [E.out]; exact TB.out _ _ Z4⟩
        · have E : Hid (prF l = (T0, 0, 1)) := hide (by rw [PH.out, tl.out, te.out, hv]; rfl)
          rw [hv]
          clear PH tl te EF hv TB
          go_wp2
          exact bodyPost_ret (v := .tuple #[.agg #[.slice none 0 0, .slice none 0 0, .slice none 0 0], .int .i64 0, .int .i64 1]) (by simp [results, Tryz.results7, hr2, go_sem]) rfl (RptPost.err (by have HX1 := X3.out.1; have hz := HX1.size; go_grown) E.out)
      · rw [if_neg (by
          rintro ⟨h1, h2⟩
          refine hA ⟨?_, h2⟩
          have := AL.out.1
          cases acc with
          | nil => exact absurd rfl h1
          | cons d r => simp at this; omega), AL.out.1] at hp
        have E := hide (EF.out.trans hp)
        generalize ps[k] = p at *
        clear hp PL hlast
        by_cases hk0 : k = 0
        · have qk : decide ((0 : Int) < (k : Int)) = false := decide_eq_false (by omega)
          have qk2 : decide (0 < k) = false := decide_eq_false (by omega)
          have qk3 : ((k : Int) == 0) = true := by simp; omega
          have RD : Hid (∀ W, Calls Tryz.prog 23 #[strV p, .string ⟨#[100, 117, 114, 97, 116, 105, 111, 110, 115]⟩, .int .i64 1] W (NrPost (wdA k) p W)) := hide (fun W => by
            have := rread19_any ⟨p.toArray⟩ (wdA k) W (by show p.length ≤ 1000000; omega) (by have := (wdA_no k).2.2; omega)
            rw [show (⟨p.toArray⟩ : ByteArray).data.toList = p by simp, show strV (wdA k) = .string ⟨#[100, 117, 114, 97, 116, 105, 111, 110, 115]⟩ from (by rw [hk0]; rfl)] at this
            exact this)
          unfold NrPost at RD
          generalize nsB (wdA k) p = ok at *
          generalize nrV (wdA k) p = nv at *
          clear hk0 hA
          cases ok
          all_goals
            go_wp2_with fail
            refine (RD.out _).mono ?_
            rintro e w3 ⟨hb, A9, c9, rfl, -⟩
            have X3 := hide ((HX.out.to Y.out.own.1).to hb)
            clear hrB hrT hb
            have hr2 := X3.out.r1
            go_wp2
            exact bodyPost_ret (v := .tuple #[.agg #[.slice none 0 0, .slice none 0 0, .slice none 0 0], .int .i64 ((k : Int) + 1), .int .i64 7]) (by simp [results, Tryz.results7, hr2, go_sem]) rfl (RptPost.err (by have HX1 := X3.out.1; have hz := HX1.size; go_grown) E.out)
        · have qk : decide ((0 : Int) < (k : Int)) = true := decide_eq_true (by omega)
          have hk1 : 0 < k := by omega
          have qk3 : ((k : Int) == 0) = false := by simp; omega
          have hpn : ¬ p = [] := fun e => hA ⟨hk1, e⟩
          have RD : Hid (∀ W, Calls Tryz.prog 23 #[strV p, .string ⟨#[112, 101, 114, 105, 111, 100]⟩, .int .i64 1] W (NrPost (wdA k) p W)) := hide (fun W => by
            have := rread19_any ⟨p.toArray⟩ (wdA k) W (by show p.length ≤ 1000000; omega) (by have := (wdA_no k).2.2; omega)
            rw [show (⟨p.toArray⟩ : ByteArray).data.toList = p by simp, show strV (wdA k) = .string ⟨#[112, 101, 114, 105, 111, 100]⟩ from (by obtain ⟨j, hj⟩ : ∃ j, k = j + 1 := ⟨k - 1, by omega⟩; rw [hj, wdA_s])] at this
            exact this)
          unfold NrPost at RD
          generalize nsB (wdA k) p = ok at *
          generalize nrV (wdA k) p = nv at *
          obtain ⟨c, r, rfl⟩ : ∃ c r, p = c :: r := by
            cases p with
            | nil => exact absurd rfl hpn
            | cons c r => exact ⟨c, r, rfl⟩
          have q0 : (⟨(c :: r).toArray⟩ : ByteArray).toList = c :: r := by rw [ByteArray.toList_eq]
          clear hA hpn
          cases ok
          all_goals
            go_wp2_with fail
            refine (RD.out _).mono ?_
            rintro e w3 ⟨hb, A9, c9, rfl, -⟩
            have X3 := hide ((HX.out.to Y.out.own.1).to hb)
            clear hrB hrT hb
            have hr2 := X3.out.r1
            go_wp2
            exact bodyPost_ret (v := .tuple #[.agg #[.slice none 0 0, .slice none 0 0, .slice none 0 0], .int .i64 ((k : Int) + 1), .int .i64 7]) (by simp [results, Tryz.results7, hr2, go_sem]) rfl (RptPost.err (by have HX1 := X3.out.1; have hz := HX1.size; go_grown) E.out)
    · obtain ⟨q, r9, hd2⟩ : ∃ q r, ps.drop (k + 1) = q :: r := by
        cases h : ps.drop (k + 1) with
        | nil => rw [List.drop_eq_nil_iff] at h; omega
        | cons q r => exact ⟨q, r, rfl⟩
      have hp := HP.out
      rw [hdr, hd2, prT, ← hd2, AL.out.1] at hp
      have q2 : ((k : Int) == (ps.length : Int) - 1) = false := by simp; omega
      have NB := hide (fun (h : nsB (wdA k) ps[k] = true) => ln_back h)
      have NLn : Hid ((nsL ps[k]).length ≤ 900001) := hide (by
        have := pts_length 32 ps[k]
        unfold nsL
        rw [List.length_map, List.length_tail]
        omega)
      have NV : Hid (nsB (wdA k) ps[k] = true → nrV (wdA k) ps[k] = nsL ps[k]) := hide (fun h => by unfold nrV; rw [if_pos h])
      have hk2 : k + 1 < ps.length := by omega
      generalize ps[k] = p at *
      clear PL hdr hd2 HP hlast
      by_cases hk0 : k = 0
      · have qk3 : ((k : Int) == 0) = true := by simp; omega
        have RD : Hid (∀ W, Calls Tryz.prog 23 #[strV p, .string ⟨#[100, 117, 114, 97, 116, 105, 111, 110, 115]⟩, .int .i64 1] W (NrPost (wdA k) p W)) := hide (fun W => by
          have := rread19_any ⟨p.toArray⟩ (wdA k) W (by show p.length ≤ 1000000; omega) (by have := (wdA_no k).2.2; omega)
          rw [show (⟨p.toArray⟩ : ByteArray).data.toList = p by simp, show strV (wdA k) = .string ⟨#[100, 117, 114, 97, 116, 105, 111, 110, 115]⟩ from (by rw [hk0]; rfl)] at this
          exact this)
        unfold NrPost at RD
        generalize nsB (wdA k) p = ok at *
        generalize nrV (wdA k) p = nv at *
        generalize nsL p = l9 at *
        cases ok with
        | false =>
          rw [if_neg (by simp)] at hp
          have E := hide (EF.out.trans hp)
          clear hp NB NV NLn
          clear hk0
          go_wp2_with fail
          refine (RD.out _).mono ?_
          rintro e w3 ⟨hb, A9, c9, rfl, -⟩
          have X3 := hide ((HX.out.to Y.out.own.1).to hb)
          clear hrB hrT hb
          have hr2 := X3.out.r1
          go_wp2
          exact bodyPost_ret (v := .tuple #[.agg #[.slice none 0 0, .slice none 0 0, .slice none 0 0], .int .i64 ((k : Int) + 1), .int .i64 7]) (by simp [results, Tryz.results7, hr2, go_sem]) rfl (RptPost.err (by have HX1 := X3.out.1; have hz := HX1.size; go_grown) E.out)
        | true =>
          rw [if_pos rfl] at hp
          have HP2 := hide hp
          have NV' := (NV.out rfl).symm
          subst NV'
          obtain ⟨-, l0, lN⟩ := NB.out rfl
          have LF := hide (And.intro l0 lN)
          have ll := List.length_pos_iff.2 l0
          have FA : Hid ((acc ++ [l9]).length = k + 1 ∧ (∀ y ∈ acc ++ [l9], y ≠ [] ∧ ∀ m ∈ y, numR m) ∧ ∀ y ∈ acc ++ [l9], y.length ≤ 900001) := hide ⟨by rw [List.length_append, AL.out.1]; rfl, fun y hy => by
            rcases List.mem_append.1 hy with hy | hy
            · exact AL.out.2.1 y hy
            · rw [List.mem_singleton.1 hy]; exact LF.out, fun y hy => by
            rcases List.mem_append.1 hy with hy | hy
            · exact AL.out.2.2 y hy
            · rw [List.mem_singleton.1 hy]; exact NLn.out⟩
          have A0 : Hid (acc = []) := hide (List.eq_nil_of_length_eq_zero (by rw [AL.out.1, hk0]))
          clear hp NB NV l0 lN hk0 AL EF
          go_wp2_with fail
          refine (RD.out _).mono ?_
          rintro e w3 ⟨hb, A9, c9, rfl, hrow⟩
          obtain ⟨g, rfl, hc, hG⟩ := LineG.new hrow ll Y.out.b2.1 Y.out.p
          have Y3 := hide (Y.out.to hb)
          have LA : Hid (LineAt w3 (w1.heap.size + 1) P 0 (.slice (some ⟨g, 0, none⟩) l9.length c9) l9) := hide (hG.slice (off := 0) (fun _ => rfl) hc)
          clear hrB hrT hb Y hrow hG hc c0 RD
          have hr := Y3.out.own.r1
          go_wp2
          have Y4 := hide ((Y3.out.first LA.out).fieldR (Nat.le_refl _) 0 (.slice (some ⟨g, 0, none⟩) l9.length c9) (X := .slice (some ⟨g, 0, none⟩) l9.length c9) (Y := P) (Z := V) rfl)
          clear hr Y3 LA
          go_roundw
          case rel => exact ⟨k + 1, acc ++ [l9], _, P, V, VL, hk2, by go_num, FA, HP2, hide (by have e := A0.out; subst e; exact Y4.out)⟩
          case measure => simp [intOf]; omega
      · have qk3 : ((k : Int) == 0) = false := by simp; omega
        have RD : Hid (∀ W, Calls Tryz.prog 23 #[strV p, .string ⟨#[112, 101, 114, 105, 111, 100]⟩, .int .i64 1] W (NrPost (wdA k) p W)) := hide (fun W => by
          have := rread19_any ⟨p.toArray⟩ (wdA k) W (by show p.length ≤ 1000000; omega) (by have := (wdA_no k).2.2; omega)
          rw [show (⟨p.toArray⟩ : ByteArray).data.toList = p by simp, show strV (wdA k) = .string ⟨#[112, 101, 114, 105, 111, 100]⟩ from (by obtain ⟨j, hj⟩ : ∃ j, k = j + 1 := ⟨k - 1, by omega⟩; rw [hj, wdA_s])] at this
          exact this)
        unfold NrPost at RD
        generalize nsB (wdA k) p = ok at *
        generalize nrV (wdA k) p = nv at *
        generalize nsL p = l9 at *
        cases ok with
        | false =>
          rw [if_neg (by simp)] at hp
          have E := hide (EF.out.trans hp)
          clear hp NB NV NLn
          go_wp2_with fail
          refine (RD.out _).mono ?_
          rintro e w3 ⟨hb, A9, c9, rfl, -⟩
          have X3 := hide ((HX.out.to Y.out.own.1).to hb)
          clear hrB hrT hb
          have hr2 := X3.out.r1
          go_wp2
          exact bodyPost_ret (v := .tuple #[.agg #[.slice none 0 0, .slice none 0 0, .slice none 0 0], .int .i64 ((k : Int) + 1), .int .i64 7]) (by simp [results, Tryz.results7, hr2, go_sem]) rfl (RptPost.err (by have HX1 := X3.out.1; have hz := HX1.size; go_grown) E.out)
        | true =>
          rw [if_pos rfl] at hp
          have HP2 := hide hp
          have NV' := (NV.out rfl).symm
          subst NV'
          obtain ⟨-, l0, lN⟩ := NB.out rfl
          have LF := hide (And.intro l0 lN)
          have ll := List.length_pos_iff.2 l0
          have FA : Hid ((acc ++ [l9]).length = k + 1 ∧ (∀ y ∈ acc ++ [l9], y ≠ [] ∧ ∀ m ∈ y, numR m) ∧ ∀ y ∈ acc ++ [l9], y.length ≤ 900001) := hide ⟨by rw [List.length_append, AL.out.1]; rfl, fun y hy => by
            rcases List.mem_append.1 hy with hy | hy
            · exact AL.out.2.1 y hy
            · rw [List.mem_singleton.1 hy]; exact LF.out, fun y hy => by
            rcases List.mem_append.1 hy with hy | hy
            · exact AL.out.2.2 y hy
            · rw [List.mem_singleton.1 hy]; exact NLn.out⟩
          obtain ⟨d, r, rfl⟩ : ∃ d r, acc = d :: r := by
            have := AL.out.1
            cases acc with
            | nil => simp at this; omega
            | cons d r => exact ⟨d, r, rfl⟩
          have rl : r.length ≤ 900001 := by have := AL.out.1; simp at this; omega
          obtain ⟨i0, hi0, hz0, hz1, hz2⟩ := info_parts ns_info
          obtain ⟨j0, hj0, hy0, hy1, hy2⟩ := info_parts ints_infoP
          have l1 : (1 : Int) ≤ (l9.length : Int) := by omega
          have hle := NLn.out
          clear hp NB NV l0 lN AL EF
          go_wp2_with fail
          refine (RD.out _).mono ?_
          rintro e w3 ⟨hb, A9, c9, rfl, hrow⟩
          obtain ⟨g, rfl, hc, hG⟩ := LineG.new hrow ll Y.out.b2.1 Y.out.p
          have Z0 : Hid (Pg w1 w3.drew (w1.heap.size + 1) [(w1.heap.size, 25, #[D, P, V])] D P V (some d) (r.map (·.getD 0 0)) VL r) := hide (Y.out.to hb).drew
          have G0 : Hid (LineG w3.drew (w1.heap.size + 1) P g l9) := hide (hG.to ((Below.refl w3.heap.size w3).drew))
          obtain ⟨x0, hx0⟩ : ∃ x0, x0 = l9.getD 0 0 := ⟨_, rfl⟩
          have HX0 := hide hx0
          clear hx0
          have HSS := hide (fun W1 P1 (R : Own w1 W1 [(w1.heap.size, 25, #[D, P, V])]) (G : LineG W1 (w1.heap.size + 1) P1 g l9) => (show W1.cell? ⟨w1.heap.size, 1, none⟩ = some P ∧ W1.cell? ⟨w1.heap.size, 2, none⟩ = some V ∧ W1.cell? ⟨g, 0, none⟩ = some (.int .i64 x0) from
            ⟨R.r1.1 1, R.r1.1 2, by rw [G.cell 0 ll, HX0.out]; simp [List.getD_eq_getElem?_getD, ll]⟩))
          have hs0 := HSS.out _ _ Z0.out.own G0.out
          have hr := (Y.out.to hb).own.r1
          clear hb RD Y hrow hG hrB hrT c0
          go_wp2
          refine wp_region_T (S := fun W1 => W1.cell? ⟨w1.heap.size, 1, none⟩ = some P ∧ W1.cell? ⟨w1.heap.size, 2, none⟩ = some V ∧ W1.cell? ⟨g, 0, none⟩ = some (.int .i64 x0)) 14 (by kernel_rfl) ?_
          refine HdT.take (i := 0) (v := ?_) (d := some 64) (by kernel_rfl) rfl rfl (by decide) (by kernel_rfl) (by kernel_rfl) (fun _ _ _ h => h) hs0 (Or.inl ⟨by rfl, ?_⟩) ?_
          rotate_left
          · (intro W1 hS1; obtain ⟨hS1, hS2, hS3⟩ := hS1; go_simp; first | done | (with_reducible rfl))
          simp only [Act.put, List.setIfInBounds_toArray, List.set_cons_zero, List.set_cons_succ]
          refine HdT.take (i := 1) (v := ?_) (d := some 65) (by kernel_rfl) rfl rfl (by decide) (by kernel_rfl) (by kernel_rfl) (fun _ _ _ h => h) hs0 (Or.inl ⟨by rfl, ?_⟩) ?_
          rotate_left
          · (intro W1 hS1; obtain ⟨hS1, hS2, hS3⟩ := hS1; go_simp; first | done | (with_reducible rfl))
          simp only [Act.put, List.setIfInBounds_toArray, List.set_cons_zero, List.set_cons_succ]
          refine HdT.take (i := 2) (v := ?_) (d := some 66) (by kernel_rfl) rfl rfl (by decide) (by kernel_rfl) (by kernel_rfl) (fun _ _ _ h => h) hs0 (Or.inl ⟨by rfl, ?_⟩) ?_
          rotate_left
          · (intro W1 hS1; obtain ⟨hS1, hS2, hS3⟩ := hS1; go_simp; first | done | (with_reducible rfl))
          simp only [Act.put, List.setIfInBounds_toArray, List.set_cons_zero, List.set_cons_succ]
          refine HdT.take (i := 3) (v := ?_) (d := some 67) (by kernel_rfl) rfl rfl (by decide) (by kernel_rfl) (by kernel_rfl) (fun _ _ _ h => h) hs0 (Or.inl ⟨by rfl, ?_⟩) ?_
          rotate_left
          · (intro W1 hS1; obtain ⟨hS1, hS2, hS3⟩ := hS1; go_simp; first | done | (with_reducible rfl))
          simp only [Act.put, List.setIfInBounds_toArray, List.set_cons_zero, List.set_cons_succ]
          refine HdT.take (i := 4) (v := ?_) (d := some 68) (by kernel_rfl) rfl rfl (by decide) (by kernel_rfl) (by kernel_rfl) (fun _ _ _ h => h) hs0 (Or.inl ⟨by rfl, ?_⟩) ?_
          rotate_left
          · (intro W1 hS1; obtain ⟨hS1, hS2, hS3⟩ := hS1; go_simp; first | done | (with_reducible rfl))
          simp only [Act.put, List.setIfInBounds_toArray, List.set_cons_zero, List.set_cons_succ]
          refine HdT.take (i := 7) (v := ?_) (d := some 71) (by kernel_rfl) rfl rfl (by decide) (by kernel_rfl) (by kernel_rfl) (fun _ _ _ h => h) hs0 (Or.inl ⟨by rfl, ?_⟩) ?_
          rotate_left
          · (intro W1 hS1; obtain ⟨hS1, hS2, hS3⟩ := hS1; go_simp; first | done | (with_reducible rfl))
          simp only [Act.put, List.setIfInBounds_toArray, List.set_cons_zero, List.set_cons_succ]
          refine HdT.take (i := 8) (v := ?_) (d := some 72) (by kernel_rfl) rfl rfl (by decide) (by kernel_rfl) (by kernel_rfl) (fun _ _ _ h => h) hs0 (Or.inl ⟨by rfl, ?_⟩) ?_
          rotate_left
          · (intro W1 hS1; obtain ⟨hS1, hS2, hS3⟩ := hS1; go_simp; first | done | (with_reducible rfl))
          simp only [Act.put, List.setIfInBounds_toArray, List.set_cons_zero, List.set_cons_succ]
          refine HdT.take (i := 9) (v := ?_) (d := some 73) (by kernel_rfl) rfl rfl (by decide) (by kernel_rfl) (by kernel_rfl) (fun _ _ _ h => h) hs0 (Or.inl ⟨by rfl, ?_⟩) ?_
          rotate_left
          · (intro W1 hS1; obtain ⟨hS1, hS2, hS3⟩ := hS1; go_simp; first | done | (with_reducible rfl))
          simp only [Act.put, List.setIfInBounds_toArray, List.set_cons_zero, List.set_cons_succ]
          refine HdT.take (i := 10) (v := ?_) (d := some 74) (by kernel_rfl) rfl rfl (by decide) (by kernel_rfl) (by kernel_rfl) (fun _ _ _ h => h) hs0 (Or.inl ⟨by rfl, ?_⟩) ?_
          rotate_left
          · (intro W1 hS1; obtain ⟨hS1, hS2, hS3⟩ := hS1; go_simp; first | done | (with_reducible rfl))
          simp only [Act.put, List.setIfInBounds_toArray, List.set_cons_zero, List.set_cons_succ]
          have hA : 1 < l9.length → (if c9 = 1 then some (⟨g, 0, none⟩ : Addr) else some ⟨g, 1, none⟩) = some ⟨g, 1, none⟩ := fun h => if_neg (by omega)
          generalize (if c9 = 1 then some (⟨g, 0, none⟩ : Addr) else some ⟨g, 1, none⟩) = Ay at *
          obtain ⟨Wa0, hW1⟩ : ∃ z, z = w3.drew := ⟨_, rfl⟩
          rw [← hW1] at Z0 G0 hs0 ⊢
          clear hW1 hr
          have fP1 : (r.map (·.getD 0 0)).length + 1 ≤ maxLen := by rw [List.length_map]; unfold maxLen; omega
          have fP2 : ((r.map (·.getD 0 0)).length + 1) * 8 ≤ 140737488355328 := by rw [List.length_map]; omega
          have fV := Z0.out.r.1
          have fV1 : VL.length + 1 ≤ maxLen := by unfold maxLen; omega
          have fV2 : (VL.length + 1) * 24 ≤ 140737488355328 := by omega
          clear fV
          refine HdT.two (i := 5) (j := 11) (by kernel_rfl) (by decide) (by decide) ?_ ?_
          · refine wpOp_step rfl (fun KK hKK => ?_)
            go_simp
            have Z1 := hide (Z0.out.alloc (.cells #[.int .i64 x0] 3))
            have G1 := hide (G0.out.to ((Below.refl Wa0.heap.size Wa0).alloc (Nat.le_refl _) (.cells #[.int .i64 x0] 3)))
            have B11 := hide (Blk.new Wa0 3 #[.int .i64 x0])
            have hs1 := HSS.out _ _ Z1.out.own G1.out
            refine hKK _ _ ⟨hs1, ?_⟩
            clear hKK KK Z0 G0 hs0
            generalize Wa0.heap.size = gb1 at *
            generalize Wa0.alloc (.cells #[.int .i64 x0] 3) = Wa1 at *
            refine HdT.two (i := 6) (j := 11) (by kernel_rfl) (by decide) (by decide) ?_ ?_
            · refine wpOp_step rfl (fun KK hKK => ?_)
              refine step_append_any (w := Wa1) (by rfl) _ _ _ (by rfl) (w1.heap.size + 1) 3 i0 (.int .i64 0) 1 8 Tryz.underlying22 hi0 hz0 hz1 hz2 rfl (by decide) P (r.map (·.getD 0 0)).length ((r.map (·.getD 0 0)).map (Value.int .i64)) (by rfl) Z1.out.p Wa1.heap.size _ 1 1 [.int .i64 x0] (by rfl) (reads_blk B11.out) (by simp [Value.oneCell']) fP1 fP2 Z1.out.b2.1 ?_
              intro P4 Wa2 hown hg ho
              have hown1 := hown
              rw [List.length_map] at hown1
              obtain ⟨A4, c4, hP4, -⟩ := row_anyG hown1
              subst hP4
              clear hown1
              have Z2 := hide (Z1.out.appP hown hg ho)
              have G2 := hide (G1.out.appP hg ho)
              have hs2 := HSS.out _ _ Z2.out.own G2.out
              refine hKK _ _ ⟨hs2, ?_⟩
              clear hKK KK hown hg ho Z1 G1 hs1 B11
              refine HdT.take (i := 13) (v := ?_) (d := some 77) (by kernel_rfl) rfl rfl (by decide) (by kernel_rfl) (by kernel_rfl) (fun _ _ _ h => h) hs2 (Or.inl ⟨by rfl, ?_⟩) ?_
              rotate_left
              · (intro W1 hS1; obtain ⟨hS1, hS2, hS3⟩ := hS1; go_simp; first | done | (with_reducible rfl))
              simp only [Act.put, List.setIfInBounds_toArray]
              refine HdT.one (i := 11) (by kernel_rfl) (by decide) ?_
              refine wpOp_step rfl (fun KK hKK => ?_)
              go_simp
              have Z3 := hide (Z2.out.alloc (.cells #[.slice Ay (l9.length - 1) (c9 - 1)] 22))
              have G3 := hide (G2.out.to ((Below.refl Wa2.heap.size Wa2).alloc (Nat.le_refl _) (.cells #[.slice Ay (l9.length - 1) (c9 - 1)] 22)))
              have B23 := hide (Blk.new Wa2 22 #[.slice Ay (l9.length - 1) (c9 - 1)])
              have hs3 := HSS.out _ _ Z3.out.own G3.out
              refine hKK _ _ ⟨hs3, ?_⟩
              clear hKK KK Z2 G2 hs2
              generalize Wa2.heap.size = gb2 at *
              generalize Wa2.alloc (.cells #[.slice Ay (l9.length - 1) (c9 - 1)] 22) = Wa3 at *
              refine HdT.one (i := 12) (by kernel_rfl) (by decide) ?_
              refine wpOp_step rfl (fun KK hKK => ?_)
              refine step_append_any (w := Wa3) (by rfl) _ _ _ (by rfl) (w1.heap.size + 1) 22 j0 (.slice none 0 0) 1 24 Tryz.underlying23 hj0 hy0 hy1 hy2 rfl (by decide) V VL.length VL (by rfl) Z3.out.v Wa3.heap.size _ 1 1 [.slice Ay (l9.length - 1) (c9 - 1)] (by rfl) (reads_blk B23.out) (by simp [Value.oneCell']) fV1 fV2 Z3.out.b2.1 ?_
              intro V4 Wa4 hown hg ho
              obtain ⟨A5, c5, hV4, -⟩ := row_anyG hown
              subst hV4
              have Z4 := hide (Z3.out.appV (G3.out.slice (off := 1) hA (by omega)) hown hg)
              have G4 := hide (G3.out.appV Z3.out.v hg)
              have hs4 := HSS.out _ _ Z4.out.own G4.out
              refine hKK _ _ ⟨hs4, ?_⟩
              clear hKK KK hown hg ho Z3 G3 hs3 B23
              have hr := Z4.out.own.r1
              refine HdT.tail ?_
              refine anyT.one (i := 14) (by kernel_rfl) (by decide) (wpOp_step rfl (fun KK hKK => ?_))
              go_simp
              refine hKK _ _ ?_
              clear hKK KK
              have Z5 := hide (Z4.out.fieldR (Nat.le_refl _) 1 (.slice A4 (r.length + 1) c4) (X := D) (Y := (.slice A4 (r.length + 1) c4)) (Z := V) rfl)
              have hr1 := Z5.out.own.r1
              refine anyT.one (i := 15) (by kernel_rfl) (by decide) (wpOp_step rfl (fun KK hKK => ?_))
              go_simp
              refine hKK _ _ ?_
              clear hKK KK
              refine anyT.one (i := 16) (by kernel_rfl) (by decide) (wpOp_step rfl (fun KK hKK => ?_))
              go_simp
              refine hKK _ _ ?_
              clear hKK KK
              have Z6 := hide (Z5.out.fieldR (Nat.le_refl _) 2 (.slice A5 (VL.length + 1) c5) (X := D) (Y := (.slice A4 (r.length + 1) c4)) (Z := (.slice A5 (VL.length + 1) c5)) rfl)
              clear hr hr1
              refine anyT.done (by kernel_rfl) ?_ _
              have Zf := Z6.out
              rw [HX0.out] at Zf
              have ZF := hide Zf
              clear Zf
              go_wp2
              go_roundw
              case rel => exact ⟨k + 1, (d :: r) ++ [l9], D, (.slice A4 (r.length + 1) c4), (.slice A5 (VL.length + 1) c5), VL ++ [.slice Ay (l9.length - 1) (c9 - 1)], hk2, by go_num, FA, HP2, hide (by show Pg w1 _ (w1.heap.size + 1) _ D _ _ (some d) ((r ++ [l9]).map (·.getD 0 0)) _ (r ++ [l9]); rw [List.map_append]; exact ZF.out)⟩
              case measure => simp [intOf]; omega
            · refine wpOp_step rfl (fun KK hKK => ?_)
              go_simp
              have Z2 := hide (Z1.out.alloc (.cells #[.slice Ay (l9.length - 1) (c9 - 1)] 22))
              have G2 := hide (G1.out.to ((Below.refl Wa1.heap.size Wa1).alloc (Nat.le_refl _) (.cells #[.slice Ay (l9.length - 1) (c9 - 1)] 22)))
              have B22 := hide (Blk.new Wa1 22 #[.slice Ay (l9.length - 1) (c9 - 1)])
              have B12 := hide (B11.out.alloc (.cells #[.slice Ay (l9.length - 1) (c9 - 1)] 22))
              have hs2 := HSS.out _ _ Z2.out.own G2.out
              refine hKK _ _ ⟨hs2, ?_⟩
              clear hKK KK Z1 G1 hs1 B11
              generalize Wa1.heap.size = gb2 at *
              generalize Wa1.alloc (.cells #[.slice Ay (l9.length - 1) (c9 - 1)] 22) = Wa2 at *
              refine HdT.one (i := 6) (by kernel_rfl) (by decide) ?_
              refine wpOp_step rfl (fun KK hKK => ?_)
              refine step_append_any (w := Wa2) (by rfl) _ _ _ (by rfl) (w1.heap.size + 1) 3 i0 (.int .i64 0) 1 8 Tryz.underlying22 hi0 hz0 hz1 hz2 rfl (by decide) P (r.map (·.getD 0 0)).length ((r.map (·.getD 0 0)).map (Value.int .i64)) (by rfl) Z2.out.p Wa2.heap.size _ 1 1 [.int .i64 x0] (by rfl) (reads_blk B12.out) (by simp [Value.oneCell']) fP1 fP2 Z2.out.b2.1 ?_
              intro P4 Wa3 hown hg ho
              have hown1 := hown
              rw [List.length_map] at hown1
              obtain ⟨A4, c4, hP4, -⟩ := row_anyG hown1
              subst hP4
              clear hown1
              have Z3 := hide (Z2.out.appP hown hg ho)
              have G3 := hide (G2.out.appP hg ho)
              have B23 := hide (B22.out.grown hg (fun e => own_blk_ne Z2.out.p B22.out (by decide) e.symm))
              have hs3 := HSS.out _ _ Z3.out.own G3.out
              refine hKK _ _ ⟨hs3, ?_⟩
              clear hKK KK hown hg ho Z2 G2 hs2 B12 B22
              refine HdT.take (i := 13) (v := ?_) (d := some 77) (by kernel_rfl) rfl rfl (by decide) (by kernel_rfl) (by kernel_rfl) (fun _ _ _ h => h) hs3 (Or.inl ⟨by rfl, ?_⟩) ?_
              rotate_left
              · (intro W1 hS1; obtain ⟨hS1, hS2, hS3⟩ := hS1; go_simp; first | done | (with_reducible rfl))
              simp only [Act.put, List.setIfInBounds_toArray]
              refine HdT.one (i := 12) (by kernel_rfl) (by decide) ?_
              refine wpOp_step rfl (fun KK hKK => ?_)
              refine step_append_any (w := Wa3) (by rfl) _ _ _ (by rfl) (w1.heap.size + 1) 22 j0 (.slice none 0 0) 1 24 Tryz.underlying23 hj0 hy0 hy1 hy2 rfl (by decide) V VL.length VL (by rfl) Z3.out.v Wa3.heap.size _ 1 1 [.slice Ay (l9.length - 1) (c9 - 1)] (by rfl) (reads_blk B23.out) (by simp [Value.oneCell']) fV1 fV2 Z3.out.b2.1 ?_
              intro V4 Wa4 hown hg ho
              obtain ⟨A5, c5, hV4, -⟩ := row_anyG hown
              subst hV4
              have Z4 := hide (Z3.out.appV (G3.out.slice (off := 1) hA (by omega)) hown hg)
              have G4 := hide (G3.out.appV Z3.out.v hg)
              have hs4 := HSS.out _ _ Z4.out.own G4.out
              refine hKK _ _ ⟨hs4, ?_⟩
              clear hKK KK hown hg ho Z3 G3 hs3 B23
              have hr := Z4.out.own.r1
              refine HdT.tail ?_
              refine anyT.one (i := 14) (by kernel_rfl) (by decide) (wpOp_step rfl (fun KK hKK => ?_))
              go_simp
              refine hKK _ _ ?_
              clear hKK KK
              have Z5 := hide (Z4.out.fieldR (Nat.le_refl _) 1 (.slice A4 (r.length + 1) c4) (X := D) (Y := (.slice A4 (r.length + 1) c4)) (Z := V) rfl)
              have hr1 := Z5.out.own.r1
              refine anyT.one (i := 15) (by kernel_rfl) (by decide) (wpOp_step rfl (fun KK hKK => ?_))
              go_simp
              refine hKK _ _ ?_
              clear hKK KK
              refine anyT.one (i := 16) (by kernel_rfl) (by decide) (wpOp_step rfl (fun KK hKK => ?_))
              go_simp
              refine hKK _ _ ?_
              clear hKK KK
              have Z6 := hide (Z5.out.fieldR (Nat.le_refl _) 2 (.slice A5 (VL.length + 1) c5) (X := D) (Y := (.slice A4 (r.length + 1) c4)) (Z := (.slice A5 (VL.length + 1) c5)) rfl)
              clear hr hr1
              refine anyT.done (by kernel_rfl) ?_ _
              have Zf := Z6.out
              rw [HX0.out] at Zf
              have ZF := hide Zf
              clear Zf
              go_wp2
              go_roundw
              case rel => exact ⟨k + 1, (d :: r) ++ [l9], D, (.slice A4 (r.length + 1) c4), (.slice A5 (VL.length + 1) c5), VL ++ [.slice Ay (l9.length - 1) (c9 - 1)], hk2, by go_num, FA, HP2, hide (by show Pg w1 _ (w1.heap.size + 1) _ D _ _ (some d) ((r ++ [l9]).map (·.getD 0 0)) _ (r ++ [l9]); rw [List.map_append]; exact ZF.out)⟩
              case measure => simp [intOf]; omega
          · refine wpOp_step rfl (fun KK hKK => ?_)
            go_simp
            have Z1 := hide (Z0.out.alloc (.cells #[.slice Ay (l9.length - 1) (c9 - 1)] 22))
            have G1 := hide (G0.out.to ((Below.refl Wa0.heap.size Wa0).alloc (Nat.le_refl _) (.cells #[.slice Ay (l9.length - 1) (c9 - 1)] 22)))
            have B21 := hide (Blk.new Wa0 22 #[.slice Ay (l9.length - 1) (c9 - 1)])
            have hs1 := HSS.out _ _ Z1.out.own G1.out
            refine hKK _ _ ⟨hs1, ?_⟩
            clear hKK KK Z0 G0 hs0
            generalize Wa0.heap.size = gb2 at *
            generalize Wa0.alloc (.cells #[.slice Ay (l9.length - 1) (c9 - 1)] 22) = Wa1 at *
            refine HdT.one (i := 5) (by kernel_rfl) (by decide) ?_
            refine wpOp_step rfl (fun KK hKK => ?_)
            go_simp
            have Z2 := hide (Z1.out.alloc (.cells #[.int .i64 x0] 3))
            have G2 := hide (G1.out.to ((Below.refl Wa1.heap.size Wa1).alloc (Nat.le_refl _) (.cells #[.int .i64 x0] 3)))
            have B12 := hide (Blk.new Wa1 3 #[.int .i64 x0])
            have B22 := hide (B21.out.alloc (.cells #[.int .i64 x0] 3))
            have hs2 := HSS.out _ _ Z2.out.own G2.out
            refine hKK _ _ ⟨hs2, ?_⟩
            clear hKK KK Z1 G1 hs1 B21
            generalize Wa1.heap.size = gb1 at *
            generalize Wa1.alloc (.cells #[.int .i64 x0] 3) = Wa2 at *
            refine HdT.one (i := 6) (by kernel_rfl) (by decide) ?_
            refine wpOp_step rfl (fun KK hKK => ?_)
            refine step_append_any (w := Wa2) (by rfl) _ _ _ (by rfl) (w1.heap.size + 1) 3 i0 (.int .i64 0) 1 8 Tryz.underlying22 hi0 hz0 hz1 hz2 rfl (by decide) P (r.map (·.getD 0 0)).length ((r.map (·.getD 0 0)).map (Value.int .i64)) (by rfl) Z2.out.p Wa2.heap.size _ 1 1 [.int .i64 x0] (by rfl) (reads_blk B12.out) (by simp [Value.oneCell']) fP1 fP2 Z2.out.b2.1 ?_
            intro P4 Wa3 hown hg ho
            have hown1 := hown
            rw [List.length_map] at hown1
            obtain ⟨A4, c4, hP4, -⟩ := row_anyG hown1
            subst hP4
            clear hown1
            have Z3 := hide (Z2.out.appP hown hg ho)
            have G3 := hide (G2.out.appP hg ho)
            have B23 := hide (B22.out.grown hg (fun e => own_blk_ne Z2.out.p B22.out (by decide) e.symm))
            have hs3 := HSS.out _ _ Z3.out.own G3.out
            refine hKK _ _ ⟨hs3, ?_⟩
            clear hKK KK hown hg ho Z2 G2 hs2 B12 B22
            refine HdT.take (i := 13) (v := ?_) (d := some 77) (by kernel_rfl) rfl rfl (by decide) (by kernel_rfl) (by kernel_rfl) (fun _ _ _ h => h) hs3 (Or.inl ⟨by rfl, ?_⟩) ?_
            rotate_left
            · (intro W1 hS1; obtain ⟨hS1, hS2, hS3⟩ := hS1; go_simp; first | done | (with_reducible rfl))
            simp only [Act.put, List.setIfInBounds_toArray]
            refine HdT.one (i := 12) (by kernel_rfl) (by decide) ?_
            refine wpOp_step rfl (fun KK hKK => ?_)
            refine step_append_any (w := Wa3) (by rfl) _ _ _ (by rfl) (w1.heap.size + 1) 22 j0 (.slice none 0 0) 1 24 Tryz.underlying23 hj0 hy0 hy1 hy2 rfl (by decide) V VL.length VL (by rfl) Z3.out.v Wa3.heap.size _ 1 1 [.slice Ay (l9.length - 1) (c9 - 1)] (by rfl) (reads_blk B23.out) (by simp [Value.oneCell']) fV1 fV2 Z3.out.b2.1 ?_
            intro V4 Wa4 hown hg ho
            obtain ⟨A5, c5, hV4, -⟩ := row_anyG hown
            subst hV4
            have Z4 := hide (Z3.out.appV (G3.out.slice (off := 1) hA (by omega)) hown hg)
            have G4 := hide (G3.out.appV Z3.out.v hg)
            have hs4 := HSS.out _ _ Z4.out.own G4.out
            refine hKK _ _ ⟨hs4, ?_⟩
            clear hKK KK hown hg ho Z3 G3 hs3 B23
            have hr := Z4.out.own.r1
            refine HdT.tail ?_
            refine anyT.one (i := 14) (by kernel_rfl) (by decide) (wpOp_step rfl (fun KK hKK => ?_))
            go_simp
            refine hKK _ _ ?_
            clear hKK KK
            have Z5 := hide (Z4.out.fieldR (Nat.le_refl _) 1 (.slice A4 (r.length + 1) c4) (X := D) (Y := (.slice A4 (r.length + 1) c4)) (Z := V) rfl)
            have hr1 := Z5.out.own.r1
            refine anyT.one (i := 15) (by kernel_rfl) (by decide) (wpOp_step rfl (fun KK hKK => ?_))
            go_simp
            refine hKK _ _ ?_
            clear hKK KK
            refine anyT.one (i := 16) (by kernel_rfl) (by decide) (wpOp_step rfl (fun KK hKK => ?_))
            go_simp
            refine hKK _ _ ?_
            clear hKK KK
            have Z6 := hide (Z5.out.fieldR (Nat.le_refl _) 2 (.slice A5 (VL.length + 1) c5) (X := D) (Y := (.slice A4 (r.length + 1) c4)) (Z := (.slice A5 (VL.length + 1) c5)) rfl)
            clear hr hr1
            refine anyT.done (by kernel_rfl) ?_ _
            have Zf := Z6.out
            rw [HX0.out] at Zf
            have ZF := hide Zf
            clear Zf
            go_wp2
            go_roundw
            case rel => exact ⟨k + 1, (d :: r) ++ [l9], D, (.slice A4 (r.length + 1) c4), (.slice A5 (VL.length + 1) c5), VL ++ [.slice Ay (l9.length - 1) (c9 - 1)], hk2, by go_num, FA, HP2, hide (by show Pg w1 _ (w1.heap.size + 1) _ D _ _ (some d) ((r ++ [l9]).map (·.getD 0 0)) _ (r ++ [l9]); rw [List.map_append]; exact ZF.out)⟩
            case measure => simp [intOf]; omega
end Go.Proofs.YtnhimgabcljahaaGreatDoor
