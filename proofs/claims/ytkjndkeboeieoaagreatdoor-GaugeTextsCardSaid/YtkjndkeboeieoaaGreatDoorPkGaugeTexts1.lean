/- Parts of one proof, joined: The reference's words and lines; nothing that was there is turned. (Printed by gen_rkw.py.). The references' readings of decimal integers: what each returns; nothing that was there is turned. (Printed by gen_rkn.py.). The reference's years and months: leap years, the days of a month, the days before a year, the number of a date; nothing that was there is turned. (Printed by gen_rck.py.). The reference's date of a number, date and seconds of an instant; nothing that was there is turned. (Printed by gen_rck.py.). -/
import Derived.Test.YtkjndkeboeieoaaGreatDoorPkGaugeBack6
import Derived.Test.YtkjndkeboeieoaaGreatDoorPkGaugeBack7
import Derived.Test.YtkjndkeboeieoaaGreatDoorPkGaugeBack2
import Derived.Test.YtkjndkeboeieoaaGreatDoorPkGaugeBack3
import Derived.Test.YtkjndkeboeieoaaGreatDoorPkGaugeBack4
import Derived.Test.YtkjndkeboeieoaaGreatDoorPkGaugeBack1
import Derived.Test.YtkjndkeboeieoaaGreatDoorPkGaugeBack5
namespace Go.Proofs.YtkjndkeboeieoaaGreatDoor
open Go Go.RowKit

theorem str_info : (Tryz.prog.info? 9).map (fun i => (i.zero, i.size, i.bytes)) = some (some (.string ByteArray.empty), 1, 16) := by kernel_rfl
theorem ext_str (s : ByteArray) (a b : Nat) : Value.string (s.extract a b) = strV ((s.data.toList.drop a).take (b - a)) := by
  congr 1
  apply ByteArray.ext
  rw [ByteArray.data_extract]
  apply Array.ext'
  simp
/-- the parts so far, and the rest -/
structure PrtRel (c : UInt8) (l : List UInt8) (L : List (List UInt8)) (fr k : Nat) : Prop where
  le : fr ≤ k
  eq : pts c l = L ++ pts c (l.drop fr)
  no : c ∉ (l.drop fr).take (k - fr)
  len : L.length ≤ k
theorem PrtRel.go {c : UInt8} {l : List UInt8} {L : List (List UInt8)} {fr k : Nat} (h : PrtRel c l L fr k) (hk : k < l.length) (hc : ¬ l[k] = c) : PrtRel c l L fr (k + 1) := by
  refine ⟨by have := h.le; omega, h.eq, ?_, by have := h.len; omega⟩
  have e : k + 1 - fr = (k - fr) + 1 := by have := h.le; omega
  have hl : k - fr < (l.drop fr).length := by have := h.le; simp; omega
  rw [e, List.take_succ_eq_append_getElem hl]
  intro hm
  rcases List.mem_append.1 hm with hm | hm
  · exact h.no hm
  · have h2 := List.mem_singleton.1 hm
    rw [List.getElem_drop] at h2
    have e3 : fr + (k - fr) = k := by have := h.le; omega
    simp only [e3] at h2
    exact hc h2.symm
theorem PrtRel.hit {c : UInt8} {l : List UInt8} {L : List (List UInt8)} {fr k : Nat} (h : PrtRel c l L fr k) (hk : k < l.length) (hc : l[k] = c) : PrtRel c l (L ++ [(l.drop fr).take (k - fr)]) (k + 1) (k + 1) := by
  refine ⟨Nat.le_refl _, ?_, by simp, by have := h.len; simp; omega⟩
  have e : l.drop fr = (l.drop fr).take (k - fr) ++ c :: l.drop (k + 1) := by
    have h1 : (l.drop fr).drop (k - fr) = l.drop k := by rw [List.drop_drop]; congr 1; have := h.le; omega
    have h2 : l.drop k = l[k] :: l.drop (k + 1) := List.drop_eq_getElem_cons hk
    rw [hc] at h2
    rw [← h2, ← h1, List.take_append_drop]
  rw [h.eq]
  conv => lhs; rw [e]
  rw [pts_at h.no, List.append_assoc]
  rfl
theorem PrtRel.done {c : UInt8} {l : List UInt8} {L : List (List UInt8)} {fr : Nat} (h : PrtRel c l L fr l.length) : pts c l = L ++ [(l.drop fr).take (l.length - fr)] := by
  have e : (l.drop fr).take (l.length - fr) = l.drop fr := List.take_of_length_le (by simp)
  have := h.no
  rw [e] at this
  rw [h.eq, e, pts_no this]
def RwP (L : List (List UInt8)) (w : World) (e : Ending) (w' : World) : Prop := Below w.heap.size w w' ∧ ∃ A c, e = .returned (.slice A L.length c) ∧ w'.ownsRow w.heap.size 9 1 (.slice A L.length c) L.length (L.map strV)
/-- a row of strings that lies by itself -/
theorem row_strs {w : World} {base : Nat} {v : Value} {L : List (List UInt8)} (h : w.ownsRow base 9 1 v L.length (L.map strV)) (hn : 0 < L.length) :
    ∃ g off cap cur, v = .slice (some ⟨g, off, none⟩) L.length cap ∧ base ≤ g ∧ Blk w g 9 cur ∧ L.length ≤ cap ∧ ∀ W, Blk W g 9 cur → ∀ i (hi : i < L.length), W.cell? ⟨g, off + i, none⟩ = some (strV L[i]) := by
  rcases h.2 with ⟨_, h0⟩ | ⟨g, cap, cur, rfl, hg, hh, h2, _, _, h5⟩
  · omega
  · refine ⟨g, 0, cap, cur, rfl, hg, hh, h2, fun W hB i hi => ?_⟩
    rw [hB.cell, Nat.zero_add]
    rw [Nat.mul_one] at h5
    have := congrArg (fun x => x[i]?) h5
    rw [List.getElem?_take, if_pos hi, List.getElem?_map, List.getElem?_eq_getElem hi] at this
    simpa using this
set_option maxRecDepth 100000 in
set_option maxHeartbeats 2000000 in
theorem words_any (s : ByteArray) (w : World) (hs : s.size ≤ 1000000) : Calls Tryz.prog 38 #[.string s] w (RwP (pts 32 s.data.toList) w) := by
  obtain ⟨i0, hi0, hz0, hz1, hz2⟩ := info_parts str_info
  have hl : s.data.toList.length = s.size := by simp
  have DN : Hid (∀ L fr, PrtRel 32 s.data.toList L fr s.size → L ++ [(s.data.toList.drop fr).take (s.size - fr)] = pts 32 s.data.toList) := hide (fun L fr h => by rw [← hl] at h ⊢; exact h.done.symm)
  have HT : Hid (∀ L fr k, PrtRel 32 s.data.toList L fr k → (hk : k < s.size) → s[k] = 32 → PrtRel 32 s.data.toList (L ++ [(s.data.toList.drop fr).take (k - fr)]) (k + 1) (k + 1)) := hide (fun L fr k h hk hc => h.hit (by rw [hl]; exact hk) hc)
  have GO : Hid (∀ L fr k, PrtRel 32 s.data.toList L fr k → (hk : k < s.size) → ¬ s[k] = 32 → PrtRel 32 s.data.toList L fr (k + 1)) := hide (fun L fr k h hk hc => h.go (by rw [hl]; exact hk) hc)
  have ST : Hid (PrtRel 32 s.data.toList [] 0 0) := hide ⟨Nat.le_refl _, by simp, by simp, Nat.le_refl _⟩
  have EX := hide (fun a b => ext_str s a b)
  clear hl
  go_enter Tryz.func38, Tryz.ntmps38
  go_wp2
  go_loopw [3, 4, 5] (fun v5 v6 v7 wr => ∃ (L : List (List UInt8)) (fr k : Nat), k ≤ s.size + 1 ∧ fr ≤ k ∧ L.length ≤ k ∧ v7 = .int .i64 k ∧ v6 = .int .i64 fr ∧ Hid ((k ≤ s.size → PrtRel 32 s.data.toList L fr k) ∧ (k = s.size + 1 → L = pts 32 s.data.toList)) ∧
    Hid (Below w.heap.size w wr ∧ wr.ownsRow w.heap.size 9 1 v5 L.length (L.map strV))) (fun _ _ v7 _ => s.size + 1 - (intOf v7).toNat)
  case atStart => exact ⟨[], 0, 0, Nat.zero_le _, Nat.le_refl _, Nat.le_refl _, rfl, rfl, hide ⟨fun _ => ST.out, fun h => by omega⟩, hide ⟨Below.refl _ _, World.ownsRow_nil _ _ _ _⟩⟩
  case round =>
    obtain ⟨L, fr, k, hk, hfr, hLk, rfl, rfl, HP, HR⟩ := hrel
    clear ST
    by_cases hle : k ≤ s.size
    · have hP := hide (HP.out.1 hle)
      have qle : decide ((k : Int) ≤ (s.size : Int)) = true := decide_eq_true (by omega)
      have qle2 : decide (k ≤ s.size) = true := decide_eq_true hle
      have ek := EX.out fr k
      have eX := hide ek
      clear ek HP
      by_cases hlt : k < s.size
      · have qe : ((k : Int) == (s.size : Int)) = false := beq_eq_false_iff_ne.2 (by omega)
        have hbd := byteD s[k]
        by_cases hc : s[k] = 32
        · have q : ((s[k].toNat : Int) == 32) = true := by rw [hc]; rfl
          have HP2 := hide (HT.out L fr k hP.out hlt hc)
          clear hc hP
          go_wp2_with (at_builtin; refine wpList_append_own _ rfl _ _ 81 rfl w.heap.size 9 i0 (.string ByteArray.empty) 1 16 Tryz.underlying81 hi0 hz0 hz1 hz2 rfl (by decide) _ L.length (L.map strV) rfl (HR.out.2.alloc (.cells #[.string (s.extract fr k)] 9)) ⟨wr.heap.size, 0, none⟩ 1 1 [.string (s.extract fr k)] rfl rfl (World.news_of_block (cs := #[.string (s.extract fr k)]) (t := 9) (fr := (0, 0)) (heap_alloc_new wr _)) (by simp [Value.oneCell']) (by unfold maxLen; omega) (by omega) (by have := HR.out.1.size; simp; omega) ?_; intro v' w4 hown4 hgrow _)
          have B5 : Below w.heap.size w w4 := (HR.out.1.alloc HR.out.1.size (.cells #[.string (s.extract fr k)] 9)).grown hgrow (by have := HR.out.1.size; simp; omega) (fun k hk => ((HR.out.2.alloc (.cells #[.string (s.extract fr k)] 9)).lt k hk).1)
          have B4 := hide (And.intro B5 hown4)
          clear B5 hown4 hgrow
          go_roundw
          case rel => exact ⟨L ++ [(s.data.toList.drop fr).take (k - fr)], k + 1, k + 1, by omega, Nat.le_refl _, by simp; omega, by go_num, by go_num, hide ⟨fun _ => HP2.out, fun h => by omega⟩, hide ⟨B4.out.1, by rw [List.map_append, List.length_append]; show World.ownsRow _ _ _ _ _ _ (L.map strV ++ [strV _]); rw [← eX.out]; exact B4.out.2⟩⟩
          case measure => simp [intOf]; omega
        · have q : ((s[k].toNat : Int) == 32) = false := by
            simp only [beq_eq_false_iff_ne, ne_eq]
            intro e
            exact hc (UInt8.toNat_inj.1 (by show s[k].toNat = 32; omega))
          have HP2 := hide (GO.out L fr k hP.out hlt hc)
          clear hc hP eX
          go_wp2
          go_roundw
          case rel => exact ⟨L, fr, k + 1, by omega, by omega, by omega, by go_num, rfl, hide ⟨fun _ => HP2.out, fun h => by omega⟩, HR⟩
          case measure => simp [intOf]; omega
      · have hk2 : k = s.size := by omega
        have qe : ((k : Int) == (s.size : Int)) = true := beq_iff_eq.2 (by omega)
        have E : Hid (L ++ [(s.data.toList.drop fr).take (k - fr)] = pts 32 s.data.toList) := hide (by rw [hk2]; exact DN.out L fr (by have := hP.out; rw [hk2] at this; exact this))
        have hk3 : k ≤ 1000000 := by omega
        clear hP hk2
        go_wp2_with (at_builtin; refine wpList_append_own _ rfl _ _ 81 rfl w.heap.size 9 i0 (.string ByteArray.empty) 1 16 Tryz.underlying81 hi0 hz0 hz1 hz2 rfl (by decide) _ L.length (L.map strV) rfl (HR.out.2.alloc (.cells #[.string (s.extract fr k)] 9)) ⟨wr.heap.size, 0, none⟩ 1 1 [.string (s.extract fr k)] rfl rfl (World.news_of_block (cs := #[.string (s.extract fr k)]) (t := 9) (fr := (0, 0)) (heap_alloc_new wr _)) (by simp [Value.oneCell']) (by unfold maxLen; omega) (by omega) (by have := HR.out.1.size; simp; omega) ?_; intro v' w4 hown4 hgrow _)
        have B5 : Below w.heap.size w w4 := (HR.out.1.alloc HR.out.1.size (.cells #[.string (s.extract fr k)] 9)).grown hgrow (by have := HR.out.1.size; simp; omega) (fun k hk => ((HR.out.2.alloc (.cells #[.string (s.extract fr k)] 9)).lt k hk).1)
        have B4 := hide (And.intro B5 hown4)
        clear B5 hown4 hgrow
        go_roundw
        case rel => exact ⟨L ++ [(s.data.toList.drop fr).take (k - fr)], k + 1, k + 1, by omega, Nat.le_refl _, by simp; omega, by go_num, by go_num, hide ⟨fun h => by omega, fun _ => E.out⟩, hide ⟨B4.out.1, by rw [List.map_append, List.length_append]; show World.ownsRow _ _ _ _ _ _ (L.map strV ++ [strV _]); rw [← eX.out]; exact B4.out.2⟩⟩
        case measure => simp [intOf]; omega
    · have E := hide (HP.out.2 (by omega))
      have qle : decide ((k : Int) ≤ (s.size : Int)) = false := decide_eq_false (by omega)
      have qle2 : decide (k ≤ s.size) = false := decide_eq_false hle
      obtain ⟨A, cp, rfl, -⟩ := row_anyG HR.out.2
      have FIN := hide HR.out
      clear HP HR
      go_wp2
      go_ret
      exact ⟨FIN.out.1, A, cp, by rw [← E.out]; rfl, by rw [← E.out]; exact FIN.out.2⟩
theorem lnsOf_snoc : ∀ (L : List (List UInt8)) (t : List UInt8), lnsOf (L ++ [t]) = L.map (· ++ [10]) ++ (if t = [] then [] else [t])
  | [], t => by simp [lnsOf]
  | p :: r, t => by
    have ih := lnsOf_snoc r t
    cases hr : r ++ [t] with
    | nil => simp at hr
    | cons q u =>
      rw [List.cons_append, hr, lnsOf, ← hr, ih, List.map_cons, List.cons_append]
/-- the lines without their ends, and whether the last one has one -/
def lnB (s : List UInt8) : List (List UInt8) := (lns s).map bodyL
def enB (s : List UInt8) : Bool := (lns s).all endB
theorem bodyL_no {t : List UInt8} (h : (10 : UInt8) ∉ t) : bodyL t = t := by unfold bodyL; rw [end_no h]; simp
theorem lnB_of {s : List UInt8} {L : List (List UInt8)} {t : List UInt8} (h : pts 10 s = L ++ [t]) : lnB s = L ++ (if t = [] then [] else [t]) ∧ enB s = decide (t = []) := by
  have ht : (10 : UInt8) ∉ t := pts_mem t (by rw [h]; simp)
  have e : lns s = L.map (· ++ [10]) ++ (if t = [] then [] else [t]) := by unfold lns; rw [h, lnsOf_snoc]
  unfold lnB enB
  rw [e]
  constructor
  · rw [List.map_append, List.map_map]
    congr 1
    · have : ∀ x ∈ L, (bodyL ∘ (· ++ [10])) x = x := fun x _ => (end_yes x).2
      rw [List.map_congr_left this, List.map_id']
    · split
      · rfl
      · simp [bodyL_no ht]
  · by_cases h0 : t = []
    · rw [if_pos h0, List.append_nil, decide_eq_true h0, List.all_eq_true]
      intro x hx
      obtain ⟨y, _, rfl⟩ := List.mem_map.1 hx
      exact (end_yes y).1
    · rw [if_neg h0, decide_eq_false h0, List.all_append]
      simp [end_no ht]
theorem lns_end (s : List UInt8) : ∀ i (h : i < (lns s).length), endB (lns s)[i] = if i + 1 = (lns s).length then enB s else true := by
  obtain ⟨L, t, hp⟩ : ∃ L t, pts 10 s = L ++ [t] := ⟨_, _, (List.dropLast_concat_getLast (pts_ne 10 s)).symm⟩
  have ht : (10 : UInt8) ∉ t := pts_mem t (by rw [hp]; simp)
  have e : lns s = L.map (· ++ [10]) ++ (if t = [] then [] else [t]) := by unfold lns; rw [hp, lnsOf_snoc]
  have hB := (lnB_of hp).2
  rw [hB]
  intro i hi
  by_cases h0 : t = []
  · rw [if_pos h0, List.append_nil] at e
    have : endB (lns s)[i] = true := by
      have := List.getElem_mem hi
      simp only [e] at this ⊢
      obtain ⟨y, _, hy⟩ := List.mem_map.1 this
      rw [← hy]
      exact (end_yes y).1
    rw [this, decide_eq_true h0]
    simp
  · rw [if_neg h0] at e
    have hl : (lns s).length = L.length + 1 := by rw [e]; simp
    rw [decide_eq_false h0]
    by_cases hlast : i + 1 = (lns s).length
    · rw [if_pos hlast]
      have : (lns s)[i] = t := by
        simp only [e]
        rw [List.getElem_append_right (by simp; omega)]
        simp
      rw [this, end_no ht]
    · rw [if_neg hlast]
      have : (lns s)[i] = L[i]'(by omega) ++ [10] := by
        simp only [e]
        rw [List.getElem_append_left (by simp; omega)]
        simp
      rw [this, (end_yes _).1]
def LnPost (s : List UInt8) (w : World) (e : Ending) (w' : World) : Prop := Below w.heap.size w w' ∧ ∃ A c, e = .returned (.tuple #[.slice A (lnB s).length c, .bool (enB s)]) ∧ w'.ownsRow w.heap.size 9 1 (.slice A (lnB s).length c) (lnB s).length ((lnB s).map strV)
set_option maxRecDepth 100000 in
set_option maxHeartbeats 2000000 in
theorem rlines_any (s : ByteArray) (w : World) (hs : s.size ≤ 1000000) : Calls Tryz.prog 37 #[.string s] w (LnPost s.data.toList w) := by
  obtain ⟨i0, hi0, hz0, hz1, hz2⟩ := info_parts str_info
  have hl : s.data.toList.length = s.size := by simp
  have DN : Hid (∀ L fr, PrtRel 10 s.data.toList L fr s.size → pts 10 s.data.toList = L ++ [(s.data.toList.drop fr).take (s.size - fr)]) := hide (fun L fr h => by rw [← hl] at h ⊢; exact h.done)
  have DL : Hid (∀ fr, ((s.data.toList.drop fr).take (s.size - fr)).length = s.size - fr) := hide (fun fr => by rw [List.length_take, List.length_drop, hl]; omega)
  have HT : Hid (∀ L fr k, PrtRel 10 s.data.toList L fr k → (hk : k < s.size) → s[k] = 10 → PrtRel 10 s.data.toList (L ++ [(s.data.toList.drop fr).take (k - fr)]) (k + 1) (k + 1)) := hide (fun L fr k h hk hc => h.hit (by rw [hl]; exact hk) hc)
  have GO : Hid (∀ L fr k, PrtRel 10 s.data.toList L fr k → (hk : k < s.size) → ¬ s[k] = 10 → PrtRel 10 s.data.toList L fr (k + 1)) := hide (fun L fr k h hk hc => h.go (by rw [hl]; exact hk) hc)
  have ST : Hid (PrtRel 10 s.data.toList [] 0 0) := hide ⟨Nat.le_refl _, by simp, by simp, Nat.le_refl _⟩
  have EX := hide (fun a b => ext_str s a b)
  clear hl
  go_enter Tryz.func37, Tryz.ntmps37
  go_wp2
  go_loopw [4, 5, 6] (fun v5 v6 v7 wr => ∃ (L : List (List UInt8)) (fr k : Nat), k ≤ s.size ∧ fr ≤ k ∧ L.length ≤ k ∧ v7 = .int .i64 k ∧ v6 = .int .i64 fr ∧ Hid (PrtRel 10 s.data.toList L fr k) ∧
    Hid (Below w.heap.size w wr ∧ wr.ownsRow w.heap.size 9 1 v5 L.length (L.map strV))) (fun _ _ v7 _ => s.size - (intOf v7).toNat)
  case atStart => exact ⟨[], 0, 0, Nat.zero_le _, Nat.le_refl _, Nat.le_refl _, rfl, rfl, ST, hide ⟨Below.refl _ _, World.ownsRow_nil _ _ _ _⟩⟩
  case round =>
    obtain ⟨L, fr, k, hk, hfr, hLk, rfl, rfl, HP, HR⟩ := hrel
    clear ST
    by_cases hlt : k < s.size
    · have hbd := byteD s[k]
      have ek := EX.out fr k
      by_cases hc : s[k] = 10
      · have q : ((s[k].toNat : Int) == 10) = true := by rw [hc]; rfl
        have HP2 := hide (HT.out L fr k HP.out hlt hc)
        clear hc HP
        have eX := hide ek
        clear ek
        go_wp2_with (at_builtin; refine wpList_append_own _ rfl _ _ 81 rfl w.heap.size 9 i0 (.string ByteArray.empty) 1 16 Tryz.underlying81 hi0 hz0 hz1 hz2 rfl (by decide) _ L.length (L.map strV) rfl (HR.out.2.alloc (.cells #[.string (s.extract fr k)] 9)) ⟨wr.heap.size, 0, none⟩ 1 1 [.string (s.extract fr k)] rfl rfl (World.news_of_block (cs := #[.string (s.extract fr k)]) (t := 9) (fr := (0, 0)) (heap_alloc_new wr _)) (by simp [Value.oneCell']) (by unfold maxLen; omega) (by omega) (by have := HR.out.1.size; simp; omega) ?_; intro v' w4 hown4 hgrow _)
        have B5 : Below w.heap.size w w4 := (HR.out.1.alloc HR.out.1.size (.cells #[.string (s.extract fr k)] 9)).grown hgrow (by have := HR.out.1.size; simp; omega) (fun k hk => ((HR.out.2.alloc (.cells #[.string (s.extract fr k)] 9)).lt k hk).1)
        have B4 := hide (And.intro B5 hown4)
        clear B5 hown4 hgrow
        go_roundw
        case rel => exact ⟨L ++ [(s.data.toList.drop fr).take (k - fr)], k + 1, k + 1, by omega, Nat.le_refl _, by simp; omega, by go_num, by go_num, HP2, hide ⟨B4.out.1, by rw [List.map_append, List.length_append]; show World.ownsRow _ _ _ _ _ _ (L.map strV ++ [strV _]); rw [← eX.out]; exact B4.out.2⟩⟩
        case measure => simp [intOf]; omega
      · have q : ((s[k].toNat : Int) == 10) = false := by
          simp only [beq_eq_false_iff_ne, ne_eq]
          intro e
          exact hc (UInt8.toNat_inj.1 (by show s[k].toNat = 10; omega))
        have HP2 := hide (GO.out L fr k HP.out hlt hc)
        clear hc HP ek
        go_wp2
        go_roundw
        case rel => exact ⟨L, fr, k + 1, by omega, by omega, by omega, by go_num, rfl, HP2, HR⟩
        case measure => simp [intOf]; omega
    · have e : k = s.size := by omega
      subst e
      have ek := EX.out fr s.size
      have E := hide (lnB_of (DN.out L fr HP.out))
      have dl := DL.out fr
      clear HP
      have eX := hide ek
      clear ek
      by_cases hf : fr < s.size
      · have q : decide (fr < s.size) = true := decide_eq_true hf
        have hne : ¬ (s.data.toList.drop fr).take (s.size - fr) = [] := fun h => by rw [h] at dl; simp at dl; omega
        have E2 : Hid (lnB s.data.toList = L ++ [(s.data.toList.drop fr).take (s.size - fr)] ∧ enB s.data.toList = false) := hide (by have := E.out; rw [if_neg hne, decide_eq_false hne] at this; exact this)
        clear E dl hne
        go_wp2_with (at_builtin; refine wpList_append_own _ rfl _ _ 81 rfl w.heap.size 9 i0 (.string ByteArray.empty) 1 16 Tryz.underlying81 hi0 hz0 hz1 hz2 rfl (by decide) _ L.length (L.map strV) rfl (HR.out.2.alloc (.cells #[.string (s.extract fr s.size)] 9)) ⟨wr.heap.size, 0, none⟩ 1 1 [.string (s.extract fr s.size)] rfl rfl (World.news_of_block (cs := #[.string (s.extract fr s.size)]) (t := 9) (fr := (0, 0)) (heap_alloc_new wr _)) (by simp [Value.oneCell']) (by unfold maxLen; omega) (by omega) (by have := HR.out.1.size; simp; omega) ?_; intro v' w4 hown4 hgrow _)
        have B5 : Below w.heap.size w w4 := (HR.out.1.alloc HR.out.1.size (.cells #[.string (s.extract fr s.size)] 9)).grown hgrow (by have := HR.out.1.size; simp; omega) (fun k hk => ((HR.out.2.alloc (.cells #[.string (s.extract fr s.size)] 9)).lt k hk).1)
        have B4 := hide (And.intro B5 hown4)
        clear B5 hown4 hgrow
        have hrow : w4.ownsRow w.heap.size 9 1 v' (L.length + 1) ((L ++ [(s.data.toList.drop fr).take (s.size - fr)]).map strV) := by rw [List.map_append]; show w4.ownsRow _ _ _ _ _ (L.map strV ++ [strV _]); rw [← eX.out]; exact B4.out.2
        obtain ⟨A, cp, rfl, -⟩ := row_anyG hrow
        have FIN : Hid (_ ∧ w4.ownsRow w.heap.size 9 1 (.slice A (L ++ [(s.data.toList.drop fr).take (s.size - fr)]).length cp) (L ++ [(s.data.toList.drop fr).take (s.size - fr)]).length ((L ++ [(s.data.toList.drop fr).take (s.size - fr)]).map strV)) := hide (And.intro B4.out.1 (by rw [List.length_append]; exact hrow))
        clear hrow B4
        go_wp2
        refine bodyPost_ret (v := .tuple #[.slice A (L ++ [(s.data.toList.drop fr).take (s.size - fr)]).length cp, .bool false]) (by simp [results, Tryz.results37, go_sem]) rfl ?_
        exact ⟨FIN.out.1, A, cp, by rw [E2.out.1, E2.out.2], by rw [E2.out.1]; exact FIN.out.2⟩
      · have q : decide (fr < s.size) = false := decide_eq_false hf
        have he : (s.data.toList.drop fr).take (s.size - fr) = [] := List.eq_nil_of_length_eq_zero (by rw [dl]; omega)
        have E2 : Hid (lnB s.data.toList = L ∧ enB s.data.toList = true) := hide (by have := E.out; rw [if_pos he, decide_eq_true he, List.append_nil] at this; exact this)
        clear E dl he eX
        obtain ⟨A, cp, rfl, -⟩ := row_anyG HR.out.2
        have FIN := hide HR.out
        clear HR
        go_wp2
        refine bodyPost_ret (v := .tuple #[.slice A L.length cp, .bool true]) (by simp [results, Tryz.results37, go_sem]) rfl ?_
        exact ⟨FIN.out.1, A, cp, by rw [E2.out.1, E2.out.2], by rw [E2.out.1]; exact FIN.out.2⟩
end Go.Proofs.YtkjndkeboeieoaaGreatDoor

namespace Go.Proofs.YtkjndkeboeieoaaGreatDoor
open Go Go.RowKit

/-- the number that some digits stand for, -1 if they are none -/
def nbI (l : List UInt8) : Int := if ∀ c ∈ l, isDg c then ((valL 0 l : Nat) : Int) else -1
theorem nb_bad {l : List UInt8} {c : UInt8} (hc : c ∈ l) (h : ¬ isDg c) : nbI l = -1 := by unfold nbI; rw [if_neg (fun k => h (k c hc))]
theorem nb_good {l : List UInt8} (h : ∀ c ∈ l, isDg c) : nbI l = ((valL 0 l : Nat) : Int) := by unfold nbI; rw [if_pos h]
theorem nb_nn {l : List UInt8} (h : 0 ≤ nbI l) : ∀ c ∈ l, isDg c := by
  unfold nbI at h
  split at h
  · assumption
  · omega
theorem nb_bd (l : List UInt8) : -1 ≤ nbI l := by unfold nbI; split <;> omega
set_option maxRecDepth 100000 in
set_option maxHeartbeats 2000000 in
theorem rnumber5s_any (s : ByteArray) (w : World) (hs : s.size ≤ 15) : Calls Tryz.prog 64 #[.string s] w fun e w' => e = .returned (.int .i64 (nbI s.data.toList)) ∧ w = w' := by
  have hl : s.data.toList.length = s.size := by simp
  have G := hide (fun hd => nb_good (l := s.data.toList) hd)
  have B := hide (fun c hc h0 => nb_bad (l := s.data.toList) (c := c) hc h0)
  have NX := hide (fun k (h : k < s.data.toList.length) => val_take h)
  have LL := hide hl
  clear hl
  go_enter Tryz.func64, Tryz.ntmps64
  go_wp2
  go_loop [3, 4] (fun v4 v5 => ∃ k : Nat, k ≤ s.size ∧ v5 = .int .i64 k ∧ v4 = .int .i64 ((valL 0 (s.data.toList.take k) : Nat) : Int) ∧ Hid (∀ c ∈ s.data.toList.take k, isDg c)) (fun _ v5 => s.size - (intOf v5).toNat)
  case atStart => exact ⟨0, Nat.zero_le _, rfl, rfl, hide (by simp)⟩
  case round =>
    obtain ⟨k, hk, rfl, rfl, HD⟩ := hrel
    by_cases hlt : k < s.size
    · have hbd := byteD s[k]
      have hkl : k < s.data.toList.length := by rw [LL.out]; exact hlt
      have eg : s.data.toList[k] = s[k] := rfl
      have N1 := NX.out k hkl
      rw [eg] at N1
      have hmem : s[k] ∈ s.data.toList := by rw [← eg]; exact List.getElem_mem hkl
      have BK := hide (fun (h0 : ¬ isDg s[k]) => B.out s[k] hmem h0)
      have DK : Hid (isDg s[k] → ∀ c ∈ s.data.toList.take (k + 1), isDg c) := hide fun h0 c hc => by
        rw [List.take_succ_eq_append_getElem hkl] at hc
        rcases List.mem_append.1 hc with h | h
        · exact HD.out c h
        · rw [List.mem_singleton.1 h, eg]; exact h0
      have hv := valL_lt (s.data.toList.take k) HD.out 0
      have hp : 10 ^ (s.data.toList.take k).length ≤ 10 ^ 15 := Nat.pow_le_pow_right (by decide) (by simp; omega)
      have e8 : (10 : Nat) ^ 15 = 1000000000000000 := by decide
      have hv2 : valL 0 (s.data.toList.take k) < 1000000000000000 := by omega
      have NH := hide N1
      clear N1 hmem hv hp e8 eg
      unfold isDg at BK DK
      generalize valL 0 (s.data.toList.take k) = v at *
      generalize hd : s[k].toNat = d at *
      by_cases d1 : d < 48
      · have E := hide (BK.out (by omega))
        have q1 : decide ((d : Int) < 48) = true := decide_eq_true (by omega)
        go_wp2
        go_ret
        exact ⟨by rw [E.out]; rfl, rfl⟩
      · have q1 : decide ((d : Int) < 48) = false := decide_eq_false (by omega)
        by_cases d2 : 57 < d
        · have E := hide (BK.out (by omega))
          have q2 : decide ((57 : Int) < (d : Int)) = true := decide_eq_true (by omega)
          go_wp2
          go_ret
          exact ⟨by rw [E.out]; rfl, rfl⟩
        · have q2 : decide ((57 : Int) < (d : Int)) = false := decide_eq_false (by omega)
          have U := u8_digit (show 48 ≤ d by omega) (by omega)
          have D2 := hide (DK.out (by omega))
          obtain ⟨x, hx⟩ : ∃ x, x = d - 48 := ⟨_, rfl⟩
          rw [← hx] at U NH
          have hx9 : x ≤ 9 := by omega
          have m1 := IntWalk.i64_in (10 * (v : Int)) (by omega)
          have m2 := IntWalk.i64_in (10 * (v : Int) + (x : Int)) (by omega)
          clear hx
          go_wp2
          go_round
          case rel => exact ⟨k + 1, by omega, by go_num, by rw [NH.out]; go_num, D2⟩
          case measure => simp [intOf]; omega
    · have e : k = s.size := by omega
      subst e
      have et : s.data.toList.take s.size = s.data.toList := List.take_of_length_le (by rw [LL.out]; exact Nat.le_refl _)
      rw [et] at HD ⊢
      have E := hide (G.out HD.out)
      clear et HD
      generalize valL 0 s.data.toList = v at *
      go_wp2
      go_ret
      exact ⟨by rw [E.out]; rfl, rfl⟩
/-- what the reference's integer returns -/
def rvI (l : List UInt8) : Int := if rvB l = true then ((valL 0 l : Nat) : Int) else -1
theorem rv_len {l : List UInt8} (h : ¬ (1 ≤ l.length ∧ l.length ≤ 15)) : rvI l = -1 := by
  unfold rvI
  rw [if_neg]
  intro h1
  have := rv_facts h1
  have h2 := List.length_pos_iff.2 this.2.1
  omega
theorem rv_zero {l : List UInt8} (h : 1 < l.length) (h0 : l.head? = some 48) : rvI l = -1 := by
  unfold rvI
  rw [if_neg]
  intro h1
  exact absurd (by rw [h0]; rfl) ((rv_facts h1).2.2.2 h)
theorem rv_bad {l : List UInt8} {c : UInt8} (h : c ∈ l) (h0 : ¬ isDg c) : rvI l = -1 := by
  unfold rvI
  rw [if_neg]
  intro h1
  exact absurd ((rv_facts h1).1 c h) h0
theorem rv_good {l : List UInt8} (h1 : 1 ≤ l.length) (h9 : l.length ≤ 15) (hz : 1 < l.length → l.head? ≠ some 48) (hd : ∀ c ∈ l, isDg c) : rvI l = ((valL 0 l : Nat) : Int) := by
  unfold rvI
  rw [if_pos]
  unfold rvB
  simp only [Bool.and_eq_true, decide_eq_true_eq, Bool.not_eq_true', Bool.and_eq_false_iff, decide_eq_false_iff_not]
  refine ⟨⟨⟨h1, h9⟩, ?_⟩, all_dg.2 hd⟩
  by_cases h : 1 < l.length
  · exact .inr (hz h)
  · exact .inl h
theorem rvI_nn (l : List UInt8) : (0 ≤ rvI l ↔ rvB l = true) ∧ -1 ≤ rvI l := by
  unfold rvI
  by_cases h : rvB l = true
  · rw [if_pos h]; exact ⟨⟨fun _ => h, fun _ => by omega⟩, by omega⟩
  · rw [if_neg h]; exact ⟨⟨fun k => by omega, fun k => absurd k h⟩, by omega⟩
/-- an integer or a dash -/
theorem wd_rv (l : List UInt8) : (l ≠ [45] → wdB l = rvB l ∧ (rvB l = true → wdV l = rvI l)) ∧ (l = [45] → wdB l = true ∧ wdV l = rvI l) := by
  constructor
  · intro h
    refine ⟨by unfold wdB; rw [decide_eq_false h]; rfl, fun h2 => ?_⟩
    unfold wdV rvI
    rw [if_neg h, if_pos h2]
  · intro h
    subst h
    decide
set_option maxRecDepth 100000 in
set_option maxHeartbeats 2000000 in
theorem rinteger_any (s : ByteArray) (w : World) (hs : s.size ≤ maxLen) : Calls Tryz.prog 40 #[.string s] w fun e w' => e = .returned (.int .i64 (rvI s.data.toList)) ∧ w = w' := by
  unfold maxLen at hs
  have hl : s.data.toList.length = s.size := by simp
  by_cases h1 : 1 ≤ s.size ∧ s.size ≤ 15
  case neg =>
    have E := hide (rv_len (l := s.data.toList) (by rw [hl]; exact h1))
    have q : ((s.size : Int) == 0) = true ∨ (((s.size : Int) == 0) = false ∧ decide ((15 : Int) < (s.size : Int)) = true) := by
      rcases Nat.lt_or_ge s.size 1 with h2 | h2
      · exact .inl (beq_iff_eq.2 (by omega))
      · exact .inr ⟨beq_eq_false_iff_ne.2 (by omega), decide_eq_true (by omega)⟩
    clear h1 hl
    rcases q with q | ⟨q, q'⟩
    all_goals
      go_enter Tryz.func40, Tryz.ntmps40
      go_wp2
      go_ret
      exact ⟨by rw [E.out]; rfl, rfl⟩
  obtain ⟨h1, h9⟩ := h1
  have HH := hide (head_byte s (by omega))
  have hb0 := byteD s[0]
  by_cases hz : 1 < s.size ∧ s[0].toNat = 48
  · have E := hide (rv_zero (l := s.data.toList) (by rw [hl]; exact hz.1) (by rw [HH.out]; congr 1; exact UInt8.toNat_inj.1 hz.2))
    obtain ⟨hz1, hz2⟩ := hz
    have q0 : ((s[0].toNat : Int) == 48) = true := by simp; omega
    have q1 : ((s.size : Int) == 0) = false := beq_eq_false_iff_ne.2 (by omega)
    have q2 : decide ((15 : Int) < (s.size : Int)) = false := decide_eq_false (by omega)
    have q3 : decide ((1 : Int) < (s.size : Int)) = true := decide_eq_true (by omega)
    clear HH hl
    go_enter Tryz.func40, Tryz.ntmps40
    go_wp2
    go_ret
    exact ⟨by rw [E.out]; rfl, rfl⟩
  have G := hide (fun hd => rv_good (l := s.data.toList) (by omega) (by omega) (fun h e => hz ⟨by omega, by rw [HH.out] at e; injection e with e; rw [e]; rfl⟩) hd)
  have B := hide (fun c hc h0 => rv_bad (l := s.data.toList) (c := c) hc h0)
  have NX := hide (fun k (h : k < s.data.toList.length) => val_take h)
  have LL := hide hl
  have go : ∀ (q : (decide ((1 : Int) < (s.size : Int)) = false) ∨ (decide ((1 : Int) < (s.size : Int)) = true ∧ ((s[0].toNat : Int) == 48) = false)), Calls Tryz.prog 40 #[.string s] w fun e w' => e = .returned (.int .i64 (rvI s.data.toList)) ∧ w = w' := by
    intro q
    have q1 : ((s.size : Int) == 0) = false := beq_eq_false_iff_ne.2 (by omega)
    have q2 : decide ((15 : Int) < (s.size : Int)) = false := decide_eq_false (by omega)
    clear hz HH
    rcases q with q | ⟨q, q'⟩
    all_goals
      go_enter Tryz.func40, Tryz.ntmps40
      go_wp2
      go_loop [3, 4] (fun v4 v5 => ∃ k : Nat, k ≤ s.size ∧ v5 = .int .i64 k ∧ v4 = .int .i64 ((valL 0 (s.data.toList.take k) : Nat) : Int) ∧ Hid (∀ c ∈ s.data.toList.take k, isDg c)) (fun _ v5 => s.size - (intOf v5).toNat)
      case atStart => exact ⟨0, Nat.zero_le _, rfl, rfl, hide (by simp)⟩
      case round =>
        obtain ⟨k, hk, rfl, rfl, HD⟩ := hrel
        by_cases hlt : k < s.size
        · have hbd := byteD s[k]
          have hkl : k < s.data.toList.length := by rw [LL.out]; exact hlt
          have eg : s.data.toList[k] = s[k] := rfl
          have N1 := NX.out k hkl
          rw [eg] at N1
          have hmem : s[k] ∈ s.data.toList := by rw [← eg]; exact List.getElem_mem hkl
          have BK := hide (fun (h0 : ¬ isDg s[k]) => B.out s[k] hmem h0)
          have DK : Hid (isDg s[k] → ∀ c ∈ s.data.toList.take (k + 1), isDg c) := hide fun h0 c hc => by
            rw [List.take_succ_eq_append_getElem hkl] at hc
            rcases List.mem_append.1 hc with h | h
            · exact HD.out c h
            · rw [List.mem_singleton.1 h, eg]; exact h0
          have hv := valL_lt (s.data.toList.take k) HD.out 0
          have hp : 10 ^ (s.data.toList.take k).length ≤ 10 ^ 15 := Nat.pow_le_pow_right (by decide) (by simp; omega)
          have e8 : (10 : Nat) ^ 15 = 1000000000000000 := by decide
          have hv2 : valL 0 (s.data.toList.take k) < 1000000000000000 := by omega
          have NH := hide N1
          clear N1 hmem hv hp e8 eg
          unfold isDg at BK DK
          generalize valL 0 (s.data.toList.take k) = v at *
          generalize hd : s[k].toNat = d at *
          by_cases d1 : d < 48
          · have E := hide (BK.out (by omega))
            have q1 : decide ((d : Int) < 48) = true := decide_eq_true (by omega)
            go_wp2
            go_ret
            exact ⟨by rw [E.out]; rfl, rfl⟩
          · have q1 : decide ((d : Int) < 48) = false := decide_eq_false (by omega)
            by_cases d2 : 57 < d
            · have E := hide (BK.out (by omega))
              have q2 : decide ((57 : Int) < (d : Int)) = true := decide_eq_true (by omega)
              go_wp2
              go_ret
              exact ⟨by rw [E.out]; rfl, rfl⟩
            · have q2 : decide ((57 : Int) < (d : Int)) = false := decide_eq_false (by omega)
              have U := u8_digit (show 48 ≤ d by omega) (by omega)
              have D2 := hide (DK.out (by omega))
              obtain ⟨x, hx⟩ : ∃ x, x = d - 48 := ⟨_, rfl⟩
              rw [← hx] at U NH
              have hx9 : x ≤ 9 := by omega
              have m1 := IntWalk.i64_in (10 * (v : Int)) (by omega)
              have m2 := IntWalk.i64_in (10 * (v : Int) + (x : Int)) (by omega)
              clear hx
              go_wp2
              go_round
              case rel => exact ⟨k + 1, by omega, by go_num, by rw [NH.out]; go_num, D2⟩
              case measure => simp [intOf]; omega
        · have e : k = s.size := by omega
          subst e
          have et : s.data.toList.take s.size = s.data.toList := List.take_of_length_le (by rw [LL.out]; exact Nat.le_refl _)
          rw [et] at HD ⊢
          have E := hide (G.out HD.out)
          clear et HD
          generalize valL 0 s.data.toList = v at *
          go_wp2
          go_ret
          exact ⟨by rw [E.out]; rfl, rfl⟩
  by_cases hq : 1 < s.size
  · exact go (.inr ⟨decide_eq_true (by omega), by simp; intro h; exact hz ⟨hq, by omega⟩⟩)
  · exact go (.inl (decide_eq_false (by omega)))
end Go.Proofs.YtkjndkeboeieoaaGreatDoor

namespace Go.Proofs.YtkjndkeboeieoaaGreatDoor
open Go Go.RowKit

set_option maxHeartbeats 1000000 in
theorem rleap_any (y : Nat) (w : World) : Calls Tryz.prog 111 #[.int .i64 (y : Int)] w fun e w' => e = .returned (.bool (leapN y)) ∧ w = w' := by
  have r4 : (y : Int).tmod 4 = ((y % 4 : Nat) : Int) := tmodN y 4
  have r100 : (y : Int).tmod 100 = ((y % 100 : Nat) : Int) := tmodN y 100
  have r400 : (y : Int).tmod 400 = ((y % 400 : Nat) : Int) := tmodN y 400
  have V : Hid (leapN y = (decide (y % 4 = 0) && (decide (y % 100 ≠ 0) || decide (y % 400 = 0)))) := hide (by
    unfold leapN
    rw [Bool.eq_iff_iff]
    simp only [Bool.and_eq_true, Bool.or_eq_true, decide_eq_true_eq]
    omega)
  have e4 : (((y % 4 : Nat) : Int) == 0) = decide (y % 4 = 0) := by rw [Bool.eq_iff_iff]; simp; omega
  have e100 : (((y % 100 : Nat) : Int) != 0) = decide (y % 100 ≠ 0) := by rw [Bool.eq_iff_iff]; simp; omega
  have e400 : (((y % 400 : Nat) : Int) == 0) = decide (y % 400 = 0) := by rw [Bool.eq_iff_iff]; simp; omega
  generalize decide (y % 4 = 0) = d4 at *
  generalize decide (y % 100 ≠ 0) = d100 at *
  generalize decide (y % 400 = 0) = d400 at *
  generalize leapN y = L at *
  generalize ((y % 4 : Nat) : Int) = x4 at *
  generalize ((y % 100 : Nat) : Int) = x100 at *
  generalize ((y % 400 : Nat) : Int) = x400 at *
  go_enter Tryz.func111, Tryz.ntmps111
  cases d4 <;> cases d100 <;> cases d400
  all_goals
    go_wp2
    go_ret
    exact ⟨by rw [V.out]; rfl, rfl⟩
set_option maxHeartbeats 1000000 in
theorem rbefore_any (y : Nat) (h0 : 1 ≤ y) (h1 : y ≤ 10000) (w : World) : Calls Tryz.prog 103 #[.int .i64 (y : Int)] w fun e w' => e = .returned (.int .i64 (bfN y : Int)) ∧ w = w' := by
  have V : Hid ((bfN y : Int) = 365 * ((y - 1 : Nat) : Int) + (((y - 1) / 4 : Nat) : Int) - (((y - 1) / 100 : Nat) : Int) + (((y - 1) / 400 : Nat) : Int)) := hide (by unfold bfN; omega)
  have s1 : IntKind.i64.wrap ((y : Int) - 1) = ((y - 1 : Nat) : Int) := (IntWalk.i64_in _ (by omega)).trans (by omega)
  have hn : y - 1 ≤ 9999 := by omega
  generalize y - 1 = n at *
  have q4 : (n : Int).tdiv 4 = ((n / 4 : Nat) : Int) := tdivN n 4
  have q100 : (n : Int).tdiv 100 = ((n / 100 : Nat) : Int) := tdivN n 100
  have q400 : (n : Int).tdiv 400 = ((n / 400 : Nat) : Int) := tdivN n 400
  have b4 : n / 4 ≤ 9999 := by omega
  have b100 : n / 100 ≤ 9999 := by omega
  have b400 : n / 400 ≤ 9999 := by omega
  generalize n / 4 = a at *
  generalize n / 100 = b at *
  generalize n / 400 = c at *
  go_enter Tryz.func103, Tryz.ntmps103
  go_wp2
  go_ret
  exact ⟨ret_int V.out.symm, rfl⟩
theorem rbefore2_any (w : World) : Calls Tryz.prog 103 #[.int .i64 2000] w fun e w' => e = .returned (.int .i64 730119) ∧ w = w' := rbefore_any 2000 (by omega) (by omega) w
set_option maxHeartbeats 1000000 in
theorem rdays_any (y m : Nat) (h0 : 1 ≤ m) (h1 : m ≤ 12) (w : World) : Calls Tryz.prog 88 #[.int .i64 (y : Int), .int .i64 (m : Int)] w (MdPost y m w) := by
  have L := hide (fun W => rleap_any y W)
  have s1 : IntKind.i64.wrap ((m : Int) - 1) = ((m - 1 : Nat) : Int) := (IntWalk.i64_in _ (by omega)).trans (by omega)
  have X := (Own.start w).alloc mdV 3
  have hr := X.r1
  have hk : m - 1 < 12 := by omega
  have VT : Hid (m = 2 ∧ leapN y = true → mdN y m = 29) := hide (fun h => by unfold mdN; rw [if_pos h])
  have VF : Hid (¬ (m = 2 ∧ leapN y = true) → mdN y m = [31, 28, 31, 30, 31, 30, 31, 31, 30, 31, 30, 31].getD (m - 1) 0) := hide (fun h => by unfold mdN; rw [if_neg h])
  have CE : Hid (∀ h : m - 1 < mdV.toList.length, mdV.toList[m - 1]'h = .int .i64 (([31, 28, 31, 30, 31, 30, 31, 31, 30, 31, 30, 31].getD (m - 1) 0 : Nat) : Int)) := hide (fun h => md_at (m - 1) h)
  generalize [31, 28, 31, 30, 31, 30, 31, 31, 30, 31, 30, 31].getD (m - 1) 0 = r at *
  have e2 : ((m : Int) == 2) = decide (m = 2) := by rw [Bool.eq_iff_iff]; simp; omega
  by_cases hm : m = 2
  · rw [decide_eq_true hm] at e2
    rcases Bool.eq_false_or_eq_true (leapN y) with hl | hl
    · have V := hide (VT.out ⟨hm, hl⟩)
      rw [hl] at L
      clear hl VT VF hm
      go_enter Tryz.func88, Tryz.ntmps88
      go_wp2_with fail
      refine (L.out _).mono ?_
      rintro e w1 ⟨rfl, rfl⟩
      go_wp2
      go_ret
      exact ⟨by rw [V.out]; rfl, Below.refl _ _⟩
    · have V := hide (VF.out (fun h => by rw [hl] at h; exact absurd h.2 (by decide)))
      rw [hl] at L
      clear hl VT VF hm
      generalize m - 1 = k at *
      go_enter Tryz.func88, Tryz.ntmps88
      go_wp2_with fail
      refine (L.out _).mono ?_
      rintro e w1 ⟨rfl, rfl⟩
      go_wp2
      go_ret
      exact ⟨by rw [V.out]; exact congrArg Ending.returned (CE.out hk), X.1⟩
  · have V := hide (VF.out (fun h => hm h.1))
    rw [decide_eq_false hm] at e2
    clear VT VF hm
    generalize m - 1 = k at *
    go_enter Tryz.func88, Tryz.ntmps88
    go_wp2
    go_ret
    exact ⟨by rw [V.out]; exact congrArg Ending.returned (CE.out hk), X.1⟩
set_option maxRecDepth 100000 in
set_option maxHeartbeats 4000000 in
theorem rnumber5_any (y m d : Nat) (w : World) (hv : VD y m d) : Calls Tryz.prog 89 #[.agg #[.int .i64 (y : Int), .int .i64 (m : Int), .int .i64 (d : Int)]] w (RetV (.int .i64 ((dnN y m d : Int) - 730119)) w) := by
  obtain ⟨⟨y1, y2⟩, ⟨m1, m2⟩, d1, d2⟩ := hv
  have hb := bf_lt (show y ≤ 10000 by omega)
  have hm := md_bd y m m1 m2
  have db : d ≤ 31 := by omega
  have BY := hide (fun W => rbefore_any y y1 (by omega) W)
  have B2 := hide (fun W => rbefore2_any W)
  have DN : Hid ((dnN y m d : Int) = (bfN y : Int) + (cuN y (m - 1) : Int) + (d : Int) - 1) := hide (by unfold dnN; omega)
  have MM := hide (fun k h1 h2 W => rdays_any y k h1 h2 W)
  unfold MdPost at MM
  have X := (Own.start w).alloc #[.int .i64 (y : Int), .int .i64 (m : Int), .int .i64 (d : Int)] 96
  have hr := X.r1
  have s0 : IntKind.i64.wrap ((bfN y : Int) - 730119) = (bfN y : Int) - 730119 := IntWalk.i64_in _ (by omega)
  have s1 : IntKind.i64.wrap ((bfN y : Int) - 730119 + (d : Int)) = (bfN y : Int) - 730119 + (d : Int) := IntWalk.i64_in _ (by omega)
  have s2 : IntKind.i64.wrap ((bfN y : Int) - 730119 + (d : Int) - 1) = (bfN y : Int) - 730119 + (d : Int) - 1 := IntWalk.i64_in _ (by omega)
  obtain ⟨b0, hb0⟩ : ∃ b0 : Int, b0 = (bfN y : Int) := ⟨_, rfl⟩
  obtain ⟨z, hz⟩ : ∃ z, z = b0 - 730119 := ⟨_, rfl⟩
  have zb : -730119 ≤ z ∧ z ≤ 3000000 := by omega
  have C12 := hide (fun k (h : k ≤ 12) => cuN_mono y h)
  have c366 : cuN y 12 ≤ 366 := by rw [cu_12]; split <;> omega
  rw [← hb0] at BY s0 s1 s2 DN
  rw [← hz] at s1 s2
  replace s0 := s0.trans hz.symm
  have HZ := hide hz
  clear hz d2 hb hb0
  go_enter Tryz.func89, Tryz.ntmps89
  have HX := hide X
  have NE : Nonempty (OwnW w [(w.heap.size, 96, #[.int .i64 (y : Int), .int .i64 (m : Int), .int .i64 (d : Int)])]) := ⟨⟨_, HX.out⟩⟩
  have C1 := fun x : OwnW w [(w.heap.size, 96, #[.int .i64 (y : Int), .int .i64 (m : Int), .int .i64 (d : Int)])] => x.own.r1
  clear X
  go_wp2_with fail
  refine wp_region_own (w := w) (L := [(w.heap.size, 96, #[.int .i64 (y : Int), .int .i64 (m : Int), .int .i64 (d : Int)])]) (by kernel_rfl) (by kernel_rfl) HX.out ?_
  repeat (go_big_quiet_step ((rename_i x; first | with_reducible exact own_same (BY.out _) | with_reducible exact own_same (B2.out _))))
  refine wpQuiet_nil ?_
  rintro W ⟨⟨W, HO⟩, rfl⟩
  have HOO := hide HO
  clear HO HX C1 NE BY B2 s0 s1 s2 hr
  go_wp2
  go_loopw [3, 4] (fun v4 v5 wr => ∃ k : Nat, 1 ≤ k ∧ k ≤ m ∧ v5 = .int .i64 (k : Int) ∧ v4 = .int .i64 (z + (d : Int) - 1 + (cuN y (k - 1) : Int)) ∧ Hid (Own w wr [(w.heap.size, 96, #[.int .i64 (y : Int), .int .i64 (m : Int), .int .i64 (d : Int)])])) (fun _ v5 _ => m - (intOf v5).toNat)
  case atStart => exact ⟨1, Nat.le_refl _, m1, rfl, by simp [cuN], HOO⟩
  case round =>
    obtain ⟨k, k1, k2, rfl, rfl, HO⟩ := hrel
    have hr := HO.out.r1
    by_cases hlt : k < m
    · have M := hide (fun W => MM.out k k1 (by omega) W)
      have bk := md_bd y k k1 (by omega)
      have cs : cuN y (k - 1 + 1) = cuN y (k - 1) + mdN y (k - 1 + 1) := rfl
      rw [show k - 1 + 1 = k by omega] at cs
      have ck := C12.out k (by omega)
      have s1 : IntKind.i64.wrap (z + (d : Int) - 1 + (cuN y (k - 1) : Int) + (mdN y k : Int)) = z + (d : Int) - 1 + (cuN y k : Int) := (IntWalk.i64_in _ (by omega)).trans (by omega)
      have E : Hid (cuN y (k + 1 - 1) = cuN y k) := hide (by rw [show k + 1 - 1 = k by omega])
      clear cs ck
      generalize mdN y k = md at *
      generalize cuN y (k - 1) = c0 at *
      go_wp2_with fail
      refine (M.out _).mono ?_
      rintro e w2 ⟨rfl, hb⟩
      have HO2 := hide (HO.out.to hb)
      clear hb hr HO
      go_wp2
      go_roundw
      case rel => exact ⟨k + 1, by omega, by omega, by go_num, by rw [E.out], HO2⟩
      case measure => simp [intOf]; omega
    · obtain rfl : k = m := by omega
      have E : Hid ((dnN y k d : Int) - 730119 = z + (d : Int) - 1 + (cuN y (k - 1) : Int)) := hide (by rw [DN.out, HZ.out]; omega)
      generalize cuN y (k - 1) = c0 at *
      go_wp2
      go_ret
      exact ⟨by rw [E.out]; rfl, HO.out.1⟩
end Go.Proofs.YtkjndkeboeieoaaGreatDoor

namespace Go.Proofs.YtkjndkeboeieoaaGreatDoor
open Go Go.RowKit

theorem dn_first : dnN 1 1 1 = 0 := by decide
theorem dn_last : dnN 9999 12 31 = 3652058 := by decide
theorem vd_first : VD 1 1 1 := by decide
theorem vd_last : VD 9999 12 31 := by decide
set_option maxRecDepth 100000 in
set_option maxHeartbeats 1000000 in
theorem dated_any (n : Int) (w : World) (hn : n < 2921940) : Calls Tryz.prog 79 #[.int .i64 n] w (BPost (decide (-730119 ≤ n)) w) := by
  have N1 : Hid (∀ W, Calls Tryz.prog 89 #[.agg #[.int .i64 1, .int .i64 1, .int .i64 1]] W (RetV (.int .i64 (-730119)) W)) := hide (fun W => by
    have := rnumber5_any 1 1 1 W vd_first
    rw [dn_first] at this
    exact this)
  have N2 : Hid (∀ W, Calls Tryz.prog 89 #[.agg #[.int .i64 9999, .int .i64 12, .int .i64 31]] W (RetV (.int .i64 2921939) W)) := hide (fun W => by
    have := rnumber5_any 9999 12 31 W vd_last
    rw [dn_last] at this
    exact this)
  by_cases h : -730119 ≤ n
  · have q1 : decide (-730119 ≤ n) = true := decide_eq_true h
    have q2 : decide (n ≤ 2921939) = true := decide_eq_true (by omega)
    rw [q1]
    clear h
    go_enter Tryz.func79, Tryz.ntmps79
    go_wp2_with fail
    refine (N1.out _).mono ?_
    rintro e w1 ⟨rfl, hb⟩
    have HB := hide hb
    clear hb
    go_wp2_with fail
    refine (N2.out _).mono ?_
    rintro e w2 ⟨rfl, hb⟩
    have HB2 := hide (below_via HB.out HB.out.size hb)
    clear hb
    go_wp2
    go_ret
    exact ⟨rfl, HB2.out⟩
  · have q1 : decide (-730119 ≤ n) = false := decide_eq_false h
    rw [q1]
    clear h
    go_enter Tryz.func79, Tryz.ntmps79
    go_wp2_with fail
    refine (N1.out _).mono ?_
    rintro e w1 ⟨rfl, hb⟩
    have HB := hide hb
    clear hb
    go_wp2
    go_ret
    exact ⟨rfl, HB.out⟩
def RDatePost (y m d : Nat) (w : World) (e : Ending) (w' : World) : Prop := e = .returned (.agg #[.int .i64 (y : Int), .int .i64 (m : Int), .int .i64 (d : Int)]) ∧ Below w.heap.size w w'
set_option maxRecDepth 100000 in
set_option maxHeartbeats 4000000 in
theorem rdateof_any (n : Int) (y m d : Nat) (w : World) (hD : IsD n y m d) : Calls Tryz.prog 80 #[.int .i64 n] w (RDatePost y m d w) := by
  obtain ⟨hv, hn⟩ := hD
  have yr := dn_year hv
  obtain ⟨⟨y1, y2⟩, ⟨m1, m2⟩, d1, d2⟩ := hv
  have yb := bf_lt (show y + 1 ≤ 10000 by omega)
  have DN : dnN y m d = bfN y + cuN y (m - 1) + (d - 1) := rfl
  have BM := hide (fun k h1 h2 W => rbefore_any k h1 h2 W)
  have B2 := hide (fun W => rbefore2_any W)
  have MM := hide (fun k h1 h2 W => rdays_any y k h1 h2 W)
  unfold MdPost at MM
  have LO := hide (fun (k : Nat) (e : decide ((bfN k : Int) - 730119 ≤ n) = true) => (by
    have e := of_decide_eq_true e
    rcases Nat.lt_or_ge y k with h | h
    · have := bf_mono (show y + 1 ≤ k from h); omega
    · exact h : k ≤ y))
  have HI := hide (fun (k : Nat) (e : decide ((bfN k : Int) - 730119 ≤ n) = false) => (by
    have e := of_decide_eq_false e
    rcases Nat.lt_or_ge y k with h | h
    · exact h
    · have := bf_mono h; omega : y < k))
  have X := (Own.start w).alloc #[.int .i64 0, .int .i64 0, .int .i64 0] 96
  have XH := hide X
  obtain ⟨r, hrr⟩ : ∃ r : Nat, r = cuN y (m - 1) + (d - 1) := ⟨_, rfl⟩
  have hm := md_bd y m m1 m2
  have cm := cuN_mono y (show m - 1 ≤ 12 by omega)
  have c366 : cuN y 12 ≤ 366 := by rw [cu_12]; split <;> omega
  have rb : r ≤ 400 := by omega
  have HN : Hid (n = (bfN y : Int) + (r : Int) - 730119) := hide (by omega)
  have HR := hide hrr
  have BB := hide (fun k (h : k ≤ 9999) => bf_lt (show k ≤ 10000 by omega))
  have nb : -730119 ≤ n ∧ n ≤ 3000000 := by omega
  clear yr yb DN hn hrr X cm
  go_enter Tryz.func80, Tryz.ntmps80
  go_wp2
  go_loop [3, 4] (fun v3 v4 => ∃ lo hi : Nat, v3 = .int .i64 (lo : Int) ∧ v4 = .int .i64 (hi : Int) ∧ 1 ≤ lo ∧ lo ≤ y ∧ y ≤ hi ∧ hi ≤ 9999) (fun v3 v4 => (intOf v4).toNat - (intOf v3).toNat)
  case atStart => exact ⟨1, 9999, rfl, rfl, by omega, by omega, by omega, by omega⟩
  case round =>
    obtain ⟨lo, hi, rfl, rfl, k0, k1, k2, k3⟩ := hrel
    by_cases hlt : lo < hi
    · obtain ⟨mid, hmid⟩ : ∃ mid, mid = (lo + hi + 1) / 2 := ⟨_, rfl⟩
      have F := hide (fun W => BM.out mid (by omega) (by omega) W)
      have FL := hide (LO.out mid)
      have FH := hide (HI.out mid)
      have bm := BB.out mid (by omega)
      have m0 : ((lo : Int) + (hi : Int) + 1).tdiv 2 = (mid : Int) := by
        have := tdivN (lo + hi + 1) 2
        rw [← hmid] at this
        have e : (((lo + hi + 1 : Nat) : Int)) = (lo : Int) + (hi : Int) + 1 := by omega
        rw [e] at this
        exact this
      have s1 : IntKind.i64.wrap ((lo : Int) + (hi : Int)) = (lo : Int) + (hi : Int) := IntWalk.i64_in _ (by omega)
      have s2 : IntKind.i64.wrap ((lo : Int) + (hi : Int) + 1) = (lo : Int) + (hi : Int) + 1 := IntWalk.i64_in _ (by omega)
      have s3 : IntKind.i64.wrap ((bfN mid : Int) - 730119) = (bfN mid : Int) - 730119 := IntWalk.i64_in _ (by omega)
      have s4 : IntKind.i64.wrap ((mid : Int) - 1) = ((mid - 1 : Nat) : Int) := (IntWalk.i64_in _ (by omega)).trans (by omega)
      have m1' : lo < mid ∧ mid ≤ hi := by omega
      generalize hd : decide ((bfN mid : Int) - 730119 ≤ n) = dd at *
      have m2' : mid - 1 < hi := by omega
      generalize (bfN mid : Int) = bz at *
      clear hmid
      cases dd with
      | true =>
        have E := FL.out rfl
        clear FL FH
        go_wp2_with fail
        refine (F.out _).mono ?_
        rintro e w1 ⟨rfl, rfl⟩
        go_wp2_with fail
        refine (B2.out _).mono ?_
        rintro e w1 ⟨rfl, rfl⟩
        go_wp2
        go_round
        case rel => exact ⟨mid, hi, rfl, rfl, by omega, E, k2, k3⟩
        case measure => simp [intOf]; omega
      | false =>
        have E := FH.out rfl
        have E2 : y ≤ mid - 1 := by omega
        clear FL FH E
        go_wp2_with fail
        refine (F.out _).mono ?_
        rintro e w1 ⟨rfl, rfl⟩
        go_wp2_with fail
        refine (B2.out _).mono ?_
        rintro e w1 ⟨rfl, rfl⟩
        go_wp2
        go_round
        case rel => exact ⟨lo, mid - 1, rfl, rfl, k0, k1, E2, by omega⟩
        case measure => simp [intOf]; omega
    · obtain rfl : lo = y := by omega
      obtain rfl : lo = hi := by omega
      have F := hide (fun W => BM.out lo (by omega) (by omega) W)
      have bm := BB.out lo (by omega)
      have s3 : IntKind.i64.wrap ((bfN lo : Int) - 730119) = (bfN lo : Int) - 730119 := IntWalk.i64_in _ (by omega)
      have s4 : IntKind.i64.wrap (n - ((bfN lo : Int) - 730119)) = (r : Int) := (IntWalk.i64_in _ (by omega)).trans (by have := HN.out; omega)
      clear LO HI BM
      generalize (bfN lo : Int) = bz at *
      go_wp2_with fail
      refine (F.out _).mono ?_
      rintro e w1 ⟨rfl, rfl⟩
      go_wp2_with fail
      refine (B2.out _).mono ?_
      rintro e w1 ⟨rfl, rfl⟩
      clear F B2
      go_wp2
      go_loopw [6, 7] (fun v6 v7 wr => ∃ k ρ : Nat, v7 = .int .i64 (k : Int) ∧ v6 = .int .i64 (ρ : Int) ∧ 1 ≤ k ∧ k ≤ m ∧ ρ + cuN lo (k - 1) = r ∧ Hid (Own w wr [(w.heap.size, 96, #[.int .i64 0, .int .i64 0, .int .i64 0])])) (fun _ v7 _ => m - (intOf v7).toNat)
      case atStart => exact ⟨1, r, rfl, rfl, Nat.le_refl _, m1, by simp [cuN], XH⟩
      case round =>
        obtain ⟨k, ρ, rfl, rfl, q1, q2, kr, HO⟩ := hrel
        have cs : cuN lo (k - 1 + 1) = cuN lo (k - 1) + mdN lo (k - 1 + 1) := rfl
        rw [show k - 1 + 1 = k by omega] at cs
        have cm := HR.out
        have M := hide (fun W => MM.out k q1 (by omega) W)
        have bk := md_bd lo k q1 (by omega)
        by_cases hlt2 : k < m
        · have hc := cuN_mono lo (show k ≤ m - 1 by omega)
          have ge : decide (mdN lo k ≤ ρ) = true := decide_eq_true (by omega)
          have E : Hid ((ρ - mdN lo k) + cuN lo (k + 1 - 1) = r) := hide (by rw [show k + 1 - 1 = k by omega]; omega)
          have s1 : IntKind.i64.wrap ((ρ : Int) - (mdN lo k : Int)) = ((ρ - mdN lo k : Nat) : Int) := (IntWalk.i64_in _ (by omega)).trans (by omega)
          clear cs cm kr hc
          generalize mdN lo k = md at *
          generalize ρ - md = ρ' at *
          go_wp2_with fail
          refine (M.out _).mono ?_
          rintro e w2 ⟨rfl, hb⟩
          have HO2 := hide (HO.out.to hb)
          clear hb HO
          go_wp2_with fail
          refine (M.out _).mono ?_
          rintro e w3 ⟨rfl, hb⟩
          have HO3 := hide (HO2.out.to hb)
          clear hb HO2
          go_wp2
          go_roundw
          case rel => exact ⟨k + 1, ρ', by go_num, rfl, by omega, by omega, E.out, HO3⟩
          case measure => simp [intOf]; omega
        · obtain rfl : k = m := by omega
          have ge : decide (mdN lo k ≤ ρ) = false := decide_eq_false (by omega)
          have ed : ρ + 1 = d := by omega
          have s1 : IntKind.i64.wrap ((ρ : Int) + 1) = (d : Int) := (IntWalk.i64_in _ (by omega)).trans (by omega)
          clear cs cm kr ed
          generalize mdN lo k = md at *
          go_wp2_with fail
          refine (M.out _).mono ?_
          rintro e w2 ⟨rfl, hb⟩
          have HO2 := hide (HO.out.to hb)
          clear hb HO
          have hr := HO2.out.r1
          have HB := hide HO2.out.1
          go_wp2
          exact bodyPost_ret (v := .agg #[.int .i64 (lo : Int), .int .i64 (k : Int), .int .i64 (d : Int)]) (by simp [results, Tryz.results80, hr, go_sem]) rfl ⟨rfl, by have HX := HB.out; have hz := HX.size; go_grown⟩
set_option maxRecDepth 100000 in
set_option maxHeartbeats 2000000 in
theorem rsplit5_no (t : Int) (w : World) (h0 : -68719476736 ≤ t) (h1 : t ≤ 68719476736) (hn : t / 86400 < -730119) : Calls Tryz.prog 55 #[.int .i64 t] w (CSplitPost 0 0 0 0 20 w) := by
  have I := hide (fun W => rinstant_any t W)
  rw [ins_yes h0 h1] at I
  have F := hide (fun W => rfloor_any t 86400 W (by omega) (by omega))
  have DO := hide (fun W => dated_any (t / 86400) W (by omega))
  rw [decide_eq_false (show ¬ -730119 ≤ t / 86400 by omega)] at DO
  have X := (Own.start w).alloc #[.int .i64 0, .int .i64 0, .int .i64 0] 96
  have hr := X.r1
  generalize t / 86400 = n at *
  go_enter Tryz.func55, Tryz.ntmps55
  go_wp2_with fail
  refine (I.out _).mono ?_
  rintro e w1 ⟨rfl, rfl⟩
  go_wp2_with fail
  refine (F.out _).mono ?_
  rintro e w1 ⟨rfl, rfl⟩
  go_wp2_with fail
  refine (DO.out _).mono ?_
  rintro e w1 ⟨rfl, hb⟩
  replace X := X.to hb
  clear hb hr
  have hr := X.r1
  go_wp2
  exact bodyPost_ret (v := .tuple #[.agg #[.int .i64 0, .int .i64 0, .int .i64 0], .int .i64 0, .int .i64 20]) (by simp [results, Tryz.results55, hr, go_sem]) rfl ⟨rfl, by have HX := X.1; have hz := HX.size; go_grown⟩
set_option maxRecDepth 100000 in
set_option maxHeartbeats 2000000 in
theorem rsplit5_any (t : Int) (y m d : Nat) (w : World) (h0 : -68719476736 ≤ t) (h1 : t ≤ 68719476736) (hD : IsD (t / 86400) y m d) : Calls Tryz.prog 55 #[.int .i64 t] w (CSplitPost y m d (t % 86400).toNat 0 w) := by
  have I := hide (fun W => rinstant_any t W)
  rw [ins_yes h0 h1] at I
  have F := hide (fun W => rfloor_any t 86400 W (by omega) (by omega))
  have D0 := hide (fun W => dated_any (t / 86400) W (by omega))
  rw [decide_eq_true (show -730119 ≤ t / 86400 by have := hD.2; omega)] at D0
  have DO := hide (fun W => rdateof_any (t / 86400) y m d W hD)
  unfold RDatePost at DO
  have X := (Own.start w).alloc #[.int .i64 0, .int .i64 0, .int .i64 0] 96
  have hr := X.r1
  have nb : -800000 ≤ t / 86400 ∧ t / 86400 ≤ 800000 := by omega
  have s2 : IntKind.i64.wrap (t - t / 86400 * 86400) = ((t % 86400).toNat : Int) := (IntWalk.i64_in _ (by omega)).trans (by omega)
  generalize (t % 86400).toNat = s at *
  generalize t / 86400 = n at *
  have s1 : IntKind.i64.wrap (n * 86400) = n * 86400 := IntWalk.i64_in _ (by omega)
  go_enter Tryz.func55, Tryz.ntmps55
  go_wp2_with fail
  refine (I.out _).mono ?_
  rintro e w1 ⟨rfl, rfl⟩
  go_wp2_with fail
  refine (F.out _).mono ?_
  rintro e w1 ⟨rfl, rfl⟩
  go_wp2_with fail
  refine (D0.out _).mono ?_
  rintro e w1 ⟨rfl, hb⟩
  replace X := X.to hb
  clear hb hr
  have hr := X.r1
  go_wp2_with fail
  refine (DO.out _).mono ?_
  rintro e w2 ⟨rfl, hb⟩
  replace X := X.to hb
  clear hb hr
  have hr := X.r1
  go_wp2
  exact bodyPost_ret (v := .tuple #[.agg #[.int .i64 (y : Int), .int .i64 (m : Int), .int .i64 (d : Int)], .int .i64 (s : Int), .int .i64 0]) (by simp [results, Tryz.results55, hr, go_sem]) rfl ⟨rfl, by have HX := X.1; have hz := HX.size; go_grown⟩
end Go.Proofs.YtkjndkeboeieoaaGreatDoor
