/- The reference's Parts of a string between bytes of a kind: what it returns; nothing that was there is turned. -/
import Derived.Test.YtaaadejamjbcbaaDoorWrd
import Derived.Test.YtaaadejamjbcbaaDoorByte
namespace Go.Proofs.YtaaadejamjbcbaaDoor
open Go Go.RowKit

theorem str_info : (Tryd.prog.info? 9).map (fun i => (i.zero, i.size, i.bytes)) = some (some (.string ByteArray.empty), 1, 16) := by kernel_rfl
theorem ext_str (s : ByteArray) (a b : Nat) : Value.string (s.extract a b) = strV ((s.data.toList.drop a).take (b - a)) := by
  congr 1
  apply ByteArray.ext
  rw [ByteArray.data_extract]
  apply Array.ext'
  simp
/-- the parts so far, and the rest -/
structure PrtRel (c : UInt8) (l : List UInt8) (L : List (List UInt8)) (fr k : Nat) : Prop where
  le : fr ≤ k
  eq : pts c l = L ++ pts c (l.drop fr)
  no : c ∉ (l.drop fr).take (k - fr)
  len : L.length ≤ k
theorem PrtRel.go {c : UInt8} {l : List UInt8} {L : List (List UInt8)} {fr k : Nat} (h : PrtRel c l L fr k) (hk : k < l.length) (hc : ¬ l[k] = c) : PrtRel c l L fr (k + 1) := by
  refine ⟨by have := h.le; omega, h.eq, ?_, by have := h.len; omega⟩
  have e : k + 1 - fr = (k - fr) + 1 := by have := h.le; omega
  have hl : k - fr < (l.drop fr).length := by have := h.le; simp; omega
  rw [e, List.take_succ_eq_append_getElem hl]
  intro hm
  rcases List.mem_append.1 hm with hm | hm
  · exact h.no hm
  · have h2 := List.mem_singleton.1 hm
    rw [List.getElem_drop] at h2
    have e3 : fr + (k - fr) = k := by have := h.le; omega
    simp only [e3] at h2
    exact hc h2.symm
theorem PrtRel.hit {c : UInt8} {l : List UInt8} {L : List (List UInt8)} {fr k : Nat} (h : PrtRel c l L fr k) (hk : k < l.length) (hc : l[k] = c) : PrtRel c l (L ++ [(l.drop fr).take (k - fr)]) (k + 1) (k + 1) := by
  refine ⟨Nat.le_refl _, ?_, by simp, by have := h.len; simp; omega⟩
  have e : l.drop fr = (l.drop fr).take (k - fr) ++ c :: l.drop (k + 1) := by
    have h1 : (l.drop fr).drop (k - fr) = l.drop k := by rw [List.drop_drop]; congr 1; have := h.le; omega
    have h2 : l.drop k = l[k] :: l.drop (k + 1) := List.drop_eq_getElem_cons hk
    rw [hc] at h2
    rw [← h2, ← h1, List.take_append_drop]
  rw [h.eq]
  conv => lhs; rw [e]
  rw [pts_at h.no, List.append_assoc]
  rfl
theorem PrtRel.done {c : UInt8} {l : List UInt8} {L : List (List UInt8)} {fr : Nat} (h : PrtRel c l L fr l.length) : pts c l = L ++ [(l.drop fr).take (l.length - fr)] := by
  have e : (l.drop fr).take (l.length - fr) = l.drop fr := List.take_of_length_le (by simp)
  have := h.no
  rw [e] at this
  rw [h.eq, e, pts_no this]
set_option maxRecDepth 100000 in
set_option maxHeartbeats 2000000 in
theorem parts_any (s : ByteArray) (c : UInt8) (w : World) (hs : s.size ≤ 1000000) : Calls Tryd.prog 44 #[.string s, .int .u8 (c.toNat : Int)] w (SplPost (pts c s.data.toList) w) := by
  obtain ⟨i0, hi0, hz0, hz1, hz2⟩ := info_parts str_info
  have hl : s.data.toList.length = s.size := by simp
  have DN : Hid (∀ L fr, PrtRel c s.data.toList L fr s.size → pts c s.data.toList = L ++ [(s.data.toList.drop fr).take (s.size - fr)]) := hide (fun L fr h => by rw [← hl] at h ⊢; exact h.done)
  have HT : Hid (∀ L fr k, PrtRel c s.data.toList L fr k → (hk : k < s.size) → s[k] = c → PrtRel c s.data.toList (L ++ [(s.data.toList.drop fr).take (k - fr)]) (k + 1) (k + 1)) := hide (fun L fr k h hk hc => h.hit (by rw [hl]; exact hk) hc)
  have GO : Hid (∀ L fr k, PrtRel c s.data.toList L fr k → (hk : k < s.size) → ¬ s[k] = c → PrtRel c s.data.toList L fr (k + 1)) := hide (fun L fr k h hk hc => h.go (by rw [hl]; exact hk) hc)
  have ST : Hid (PrtRel c s.data.toList [] 0 0) := hide ⟨Nat.le_refl _, by simp, by simp, Nat.le_refl _⟩
  have EX := hide (fun a b => ext_str s a b)
  have bc := byteD c
  clear hl
  go_enter Tryd.func44, Tryd.ntmps44
  go_wp2
  go_loopw [5, 6, 7] (fun v5 v6 v7 wr => ∃ (L : List (List UInt8)) (fr k : Nat), k ≤ s.size ∧ fr ≤ k ∧ L.length ≤ k ∧ v7 = .int .i64 k ∧ v6 = .int .i64 fr ∧ Hid (PrtRel c s.data.toList L fr k) ∧
    Hid (Below w.heap.size w wr ∧ wr.ownsRow w.heap.size 9 1 v5 L.length (L.map strV))) (fun _ _ v7 _ => s.size - (intOf v7).toNat)
  case atStart => exact ⟨[], 0, 0, Nat.zero_le _, Nat.le_refl _, Nat.le_refl _, rfl, rfl, ST, hide ⟨Below.refl _ _, World.ownsRow_nil _ _ _ _⟩⟩
  case round =>
    obtain ⟨L, fr, k, hk, hfr, hLk, rfl, rfl, HP, HR⟩ := hrel
    clear ST
    by_cases hlt : k < s.size
    · have hbd := byteD s[k]
      have ek := EX.out fr k
      by_cases hc : s[k] = c
      · have q : ((s[k].toNat : Int) == (c.toNat : Int)) = true := by rw [hc]; simp
        have HP2 := hide (HT.out L fr k HP.out hlt hc)
        clear hc HP
        have eX := hide ek
        clear ek
        go_wp2_with (at_builtin; refine wpList_append_own _ rfl _ _ 81 rfl w.heap.size 9 i0 (.string ByteArray.empty) 1 16 Tryd.underlying81 hi0 hz0 hz1 hz2 rfl (by decide) _ L.length (L.map strV) rfl (HR.out.2.alloc (.cells #[.string (s.extract fr k)] 9)) ⟨wr.heap.size, 0, none⟩ 1 1 [.string (s.extract fr k)] rfl rfl (World.news_of_block (cs := #[.string (s.extract fr k)]) (t := 9) (fr := (0, 0)) (heap_alloc_new wr _)) (by simp [Value.oneCell']) (by unfold maxLen; omega) (by omega) (by have := HR.out.1.size; simp; omega) ?_; intro v' w4 hown4 hgrow _)
        have B5 : Below w.heap.size w w4 := (HR.out.1.alloc HR.out.1.size (.cells #[.string (s.extract fr k)] 9)).grown hgrow (by have := HR.out.1.size; simp; omega) (fun k hk => ((HR.out.2.alloc (.cells #[.string (s.extract fr k)] 9)).lt k hk).1)
        have B4 := hide (And.intro B5 hown4)
        clear B5 hown4 hgrow
        go_roundw
        case rel => exact ⟨L ++ [(s.data.toList.drop fr).take (k - fr)], k + 1, k + 1, by omega, Nat.le_refl _, by simp; omega, by go_num, by go_num, HP2, hide ⟨B4.out.1, by rw [List.map_append, List.length_append]; show World.ownsRow _ _ _ _ _ _ (L.map strV ++ [strV _]); rw [← eX.out]; exact B4.out.2⟩⟩
        case measure => simp [intOf]; omega
      · have q : ((s[k].toNat : Int) == (c.toNat : Int)) = false := by
          simp only [beq_eq_false_iff_ne, ne_eq]
          intro e
          exact hc (UInt8.toNat_inj.1 (by omega))
        have HP2 := hide (GO.out L fr k HP.out hlt hc)
        clear hc HP ek
        go_wp2
        go_roundw
        case rel => exact ⟨L, fr, k + 1, by omega, by omega, by omega, by go_num, rfl, HP2, HR⟩
        case measure => simp [intOf]; omega
    · have e : k = s.size := by omega
      subst e
      have ek := EX.out fr s.size
      have E := hide (DN.out L fr HP.out)
      clear HP
      have eX := hide ek
      clear ek
      go_wp2_with (at_builtin; refine wpList_append_own _ rfl _ _ 81 rfl w.heap.size 9 i0 (.string ByteArray.empty) 1 16 Tryd.underlying81 hi0 hz0 hz1 hz2 rfl (by decide) _ L.length (L.map strV) rfl (HR.out.2.alloc (.cells #[.string (s.extract fr s.size)] 9)) ⟨wr.heap.size, 0, none⟩ 1 1 [.string (s.extract fr s.size)] rfl rfl (World.news_of_block (cs := #[.string (s.extract fr s.size)]) (t := 9) (fr := (0, 0)) (heap_alloc_new wr _)) (by simp [Value.oneCell']) (by unfold maxLen; omega) (by omega) (by have := HR.out.1.size; simp; omega) ?_; intro v' w4 hown4 hgrow _)
      have B5 : Below w.heap.size w w4 := (HR.out.1.alloc HR.out.1.size (.cells #[.string (s.extract fr s.size)] 9)).grown hgrow (by have := HR.out.1.size; simp; omega) (fun k hk => ((HR.out.2.alloc (.cells #[.string (s.extract fr s.size)] 9)).lt k hk).1)
      have hrow : w4.ownsRow w.heap.size 9 1 v' (L.length + 1) ((L ++ [(s.data.toList.drop fr).take (s.size - fr)]).map strV) := by rw [List.map_append]; show w4.ownsRow _ _ _ _ _ (L.map strV ++ [strV _]); rw [← eX.out]; exact hown4
      obtain ⟨A, cp, rfl, hsl, hcp⟩ := StrSl.of_row hrow (by simp; omega)
      have FIN := hide (And.intro B5 (And.intro hsl (And.intro hcp E.out)))
      clear B5 hsl hcp hrow hown4 hgrow E
      go_wp2
      go_ret
      exact ⟨FIN.out.1, A, cp, by rw [FIN.out.2.2.2]; rfl, by rw [FIN.out.2.2.2]; exact FIN.out.2.1, by rw [FIN.out.2.2.2]; exact FIN.out.2.2.1⟩
end Go.Proofs.YtaaadejamjbcbaaDoor
