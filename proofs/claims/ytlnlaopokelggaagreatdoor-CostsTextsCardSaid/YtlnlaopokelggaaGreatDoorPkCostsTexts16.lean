/- Parts of one proof, joined: The reference's Int (sewershedref04): the int with a decimal text, and whether there is one; nothing that was there is turned (printed by gen_sptxr.py). The reference's Text and Parse of spans (sewershedref04): what each returns; nothing that was there is turned. The program's number and read (costs), the reference's Number (sewershedref28): what each returns; nothing that was there is turned. (Printed by gen_ct.py.). -/
import Derived.Test.YtlnlaopokelggaaGreatDoorPkCostsTexts15
import Derived.Test.YtlnlaopokelggaaGreatDoorPkCostsTexts2
namespace Go.Proofs.YtlnlaopokelggaaGreatDoor
open Go Go.RowKit

theorem drop_byteD (s : ByteArray) (k : Nat) (h : k < s.size) : s.data.toList.drop k = s[k] :: s.data.toList.drop (k + 1) := by
  rw [List.drop_eq_getElem_cons (by simpa using h)]; rfl
theorem byteD (b : UInt8) : (0 : Int) ≤ (b.toNat : Int) ∧ (b.toNat : Int) < 256 := ⟨by omega, by have := b.toNat_lt; omega⟩
theorem head_byte (s : ByteArray) (h : 0 < s.size) : s.data.toList.head? = some s[0] := by
  have := drop_byteD s 0 h
  rw [List.drop_zero] at this
  rw [this]; rfl
def IntPost (l : List UInt8) (w : World) (e : Ending) (w' : World) : Prop := e = .returned (.tuple #[.int .i64 (rdV l), .bool (rdB l)]) ∧ Below w.heap.size w w'
theorem IntPost.mk {l : List UInt8} {v : Int} {b : Bool} {w w' : World} (h : rdV l = v ∧ rdB l = b) (hb : Below w.heap.size w w') : IntPost l w (.returned (.tuple #[.int .i64 v, .bool b])) w' := by obtain ⟨rfl, rfl⟩ := h; exact ⟨rfl, hb⟩
theorem rd_none {l : List UInt8} (h : rdD 0 (rdT l) = none) : rdV l = 0 ∧ rdB l = false := by simp [rdV, rdB, h]
theorem rd_pos {l : List UInt8} {N : Nat} (hh : l.head? ≠ some 45) (h : rdD 0 (rdT l) = some N) : rdV l = N ∧ rdB l = (decide (N ≤ 144115188075855872) && decide (Lib.itoa (N : Int) = l)) := by
  have e : rdV l = N := by simp [rdV, h, hh]
  refine ⟨e, ?_⟩
  unfold rdB
  rw [h, e]
  have h1 : decide (-144115188075855872 ≤ (N : Int)) = true := decide_eq_true (by omega)
  have h2 : decide ((N : Int) ≤ 144115188075855872) = decide (N ≤ 144115188075855872) := by congr 1; apply propext; omega
  simp only [h1, h2, Bool.and_true]
theorem rd_neg {l : List UInt8} {N : Nat} (hh : l.head? = some 45) (h : rdD 0 (rdT l) = some N) : rdV l = -(N : Int) ∧ rdB l = (decide (N ≤ 144115188075855872) && decide (Lib.itoa (-(N : Int)) = l)) := by
  have e : rdV l = -(N : Int) := by simp [rdV, h, hh]
  refine ⟨e, ?_⟩
  unfold rdB
  rw [h, e]
  have h1 : decide (-(N : Int) ≤ 144115188075855872) = true := decide_eq_true (by omega)
  have h2 : decide (-144115188075855872 ≤ -(N : Int)) = decide (N ≤ 144115188075855872) := by congr 1; apply propext; omega
  simp only [h1, h2, Bool.true_and]
theorem rdD_stop {N : Nat} {c : UInt8} {r : List UInt8} (h : (c.toNat : Int) < 48 ∨ 57 < (c.toNat : Int) ∨ 144115188075855872 < (N : Int)) : rdD N (c :: r) = none := by
  rw [rdD, if_pos]
  rcases h with h | h | h
  · exact .inl (decide_eq_false (by omega))
  · exact .inl (decide_eq_false (by omega))
  · exact .inr (by omega)
theorem rdD_go {N d : Nat} {c : UInt8} {r : List UInt8} (h : (c.toNat : Int) = 48 + d) (hd : d ≤ 9) (hN : N ≤ 144115188075855872) : rdD N (c :: r) = rdD (N * 10 + d) r := by
  rw [rdD, if_neg]
  · congr 2; omega
  · rw [not_or]
    exact ⟨by rw [show dgB c = true from decide_eq_true (by omega)]; simp, by omega⟩

set_option maxRecDepth 100000 in
set_option maxHeartbeats 4000000 in
theorem rint_pos (s : ByteArray) (w : World) (hs : s.size ≤ 4294967280) (hm : ∀ h : 0 < s.size, (s[0].toNat : Int) ≠ 45) : Calls Tryz.prog 78 #[.string s] w (IntPost s.data.toList w) := by
  have hd : s.data.toList.head? ≠ some 45 := fun e => by
    by_cases h0 : 0 < s.size
    · rw [head_byte s h0] at e
      injection e with e
      exact hm h0 (by rw [e]; rfl)
    · have : s.data.toList = [] := by apply List.eq_nil_of_length_eq_zero; simpa using (show s.size = 0 by omega)
      rw [this] at e; simp at e
  have eT : rdT s.data.toList = s.data.toList := by unfold rdT; rw [if_neg hd]
  have FIN := hide (fun N (h : rdD 0 s.data.toList = some N) => rd_pos hd (by rw [eT]; exact h))
  have NON := hide (fun (h : rdD 0 s.data.toList = none) => rd_none (l := s.data.toList) (by rw [eT]; exact h))
  have G0 : Hid (∀ h : 0 < s.size, ((s[0].toNat : Int) == 45) = false) := hide fun h => by have := hm h; simpa using this
  clear hd eT hm
  go_enter Tryz.func78, Tryz.ntmps78
  go_wp2
  go_loop [4, 5] (fun v4 v5 => ∃ i N : Nat, i ≤ s.size ∧ v5 = .int .i64 i ∧ v4 = .int .i64 N ∧ (N : Int) ≤ 1441151880758558729 ∧ Hid (rdD 0 s.data.toList = rdD N (s.data.toList.drop i))) (fun _ v5 => s.size - (intOf v5).toNat)
  case atStart => exact ⟨0, 0, Nat.zero_le _, rfl, rfl, by decide, hide (by rw [List.drop_zero])⟩
  case round =>
    obtain ⟨i, N, hi, rfl, rfl, hN, HI⟩ := hrel
    by_cases hlt : i < s.size
    · have HJ := HI
      clear HI
      by_cases i0 : i = 0
      · subst i0
        have g0 := G0.out hlt
        have DB := hide (drop_byteD s 0 hlt)
        have hc := byteD s[0]
        generalize hci : (s[0].toNat : Int) = c at *
        by_cases c1 : c < 48
        · have E := hide (NON.out (by rw [HJ.out, DB.out]; exact rdD_stop (.inl (by omega))))
          have d1 : decide (c < 48) = true := decide_eq_true c1
          clear HJ DB
          go_wp2
          go_ret2
          exact IntPost.mk E.out (Below.refl _ _)
        have d1 : decide (c < 48) = false := decide_eq_false c1
        by_cases c2 : 57 < c
        · have E := hide (NON.out (by rw [HJ.out, DB.out]; exact rdD_stop (.inr (.inl (by omega)))))
          have d2 : decide (57 < c) = true := decide_eq_true c2
          clear HJ DB
          go_wp2
          go_ret2
          exact IntPost.mk E.out (Below.refl _ _)
        have d2 : decide (57 < c) = false := decide_eq_false c2
        by_cases c3 : 144115188075855872 < (N : Int)
        · have E := hide (NON.out (by rw [HJ.out, DB.out]; exact rdD_stop (.inr (.inr c3))))
          have d3 : decide (144115188075855872 < (N : Int)) = true := decide_eq_true c3
          clear HJ DB
          go_wp2
          go_ret2
          exact IntPost.mk E.out (Below.refl _ _)
        have d3 : decide (144115188075855872 < (N : Int)) = false := decide_eq_false c3
        obtain ⟨d, rfl⟩ : ∃ d : Nat, c = 48 + (d : Int) := ⟨(c - 48).toNat, by omega⟩
        have d9 : d ≤ 9 := by omega
        have HJ2 : Hid (rdD 0 s.data.toList = rdD (N * 10 + d) (s.data.toList.drop (0 + 1))) := hide (by rw [HJ.out, DB.out]; exact rdD_go hci d9 (by omega))
        have bN : ((N * 10 + d : Nat) : Int) ≤ 1441151880758558729 := by omega
        clear HJ DB c1 c2 c3 hc
        go_wp2
        go_round
        case rel => exact ⟨0 + 1, N * 10 + d, by omega, by go_num, by go_num, bN, hide HJ2.out⟩
        case measure => simp [intOf]; omega
      · have q0 : ((i : Int) == 0) = false := by simp [i0]
        clear i0
        have DB := hide (drop_byteD s i hlt)
        have hc := byteD s[i]
        generalize hci : (s[i].toNat : Int) = c at *
        by_cases c1 : c < 48
        · have E := hide (NON.out (by rw [HJ.out, DB.out]; exact rdD_stop (.inl (by omega))))
          have d1 : decide (c < 48) = true := decide_eq_true c1
          clear HJ DB
          go_wp2
          go_ret2
          exact IntPost.mk E.out (Below.refl _ _)
        have d1 : decide (c < 48) = false := decide_eq_false c1
        by_cases c2 : 57 < c
        · have E := hide (NON.out (by rw [HJ.out, DB.out]; exact rdD_stop (.inr (.inl (by omega)))))
          have d2 : decide (57 < c) = true := decide_eq_true c2
          clear HJ DB
          go_wp2
          go_ret2
          exact IntPost.mk E.out (Below.refl _ _)
        have d2 : decide (57 < c) = false := decide_eq_false c2
        by_cases c3 : 144115188075855872 < (N : Int)
        · have E := hide (NON.out (by rw [HJ.out, DB.out]; exact rdD_stop (.inr (.inr c3))))
          have d3 : decide (144115188075855872 < (N : Int)) = true := decide_eq_true c3
          clear HJ DB
          go_wp2
          go_ret2
          exact IntPost.mk E.out (Below.refl _ _)
        have d3 : decide (144115188075855872 < (N : Int)) = false := decide_eq_false c3
        obtain ⟨d, rfl⟩ : ∃ d : Nat, c = 48 + (d : Int) := ⟨(c - 48).toNat, by omega⟩
        have d9 : d ≤ 9 := by omega
        have HJ2 : Hid (rdD 0 s.data.toList = rdD (N * 10 + d) (s.data.toList.drop (i + 1))) := hide (by rw [HJ.out, DB.out]; exact rdD_go hci d9 (by omega))
        have bN : ((N * 10 + d : Nat) : Int) ≤ 1441151880758558729 := by omega
        clear HJ DB c1 c2 c3 hc
        go_wp2
        go_round
        case rel => exact ⟨i + 1, N * 10 + d, by omega, by go_num, by go_num, bN, hide HJ2.out⟩
        case measure => simp [intOf]; omega
    · obtain rfl : i = s.size := by omega
      have hnil : s.data.toList.drop s.size = [] := List.drop_of_length_le (by simp)
      have E := FIN.out N (by rw [HI.out, hnil]; rfl)
      have LX := ByteArray.toList_eq s
      clear HI FIN NON hnil
      have E1 := hide E
      clear E
      have DC := hide (fun W => rdec_any ((N : Int)) W (by omega) (by omega))
      have TL := ByteArray.toList_eq s
      by_cases c3 : N ≤ 144115188075855872
      · have QE : Hid (rdB s.data.toList = decide (Lib.itoa (N : Int) = s.data.toList)) := hide (by rw [E1.out.2, decide_eq_true c3, Bool.true_and])
        have d3 : decide ((N : Int) ≤ 144115188075855872) = true := decide_eq_true (by omega)
        have d4 : decide (-144115188075855872 ≤ (N : Int)) = true := decide_eq_true (by omega)
        generalize Lib.itoa (N : Int) = ti at *
        generalize hL : s.data.toList = L at *
        clear hL
        by_cases z : 0 < s.size
        · have g0 := G0.out z
          have z1 : decide ((0 : Int) < (s.size : Int)) = true := decide_eq_true (by omega)
          by_cases q : ti = L
          · have q1 : (ti == L) = true := by simp [q]
            have EE := hide (And.intro E1.out.1 (QE.out.trans (show decide (ti = L) = true by simp [q])))
            clear q c3
            go_wp2_with fail
            refine (DC.out _).mono ?_
            rintro e w1 ⟨rfl, hb⟩
            go_wp2
            go_ret2
            exact IntPost.mk EE.out hb
          · have q1 : (ti == L) = false := by simp [q]
            have EE := hide (And.intro E1.out.1 (QE.out.trans (show decide (ti = L) = false by simp [q])))
            clear q c3
            go_wp2_with fail
            refine (DC.out _).mono ?_
            rintro e w1 ⟨rfl, hb⟩
            go_wp2
            go_ret2
            exact IntPost.mk EE.out hb
        · have z1 : decide ((0 : Int) < (s.size : Int)) = false := decide_eq_false (by omega)
          by_cases q : ti = L
          · have q1 : (ti == L) = true := by simp [q]
            have EE := hide (And.intro E1.out.1 (QE.out.trans (show decide (ti = L) = true by simp [q])))
            clear q c3
            go_wp2_with fail
            refine (DC.out _).mono ?_
            rintro e w1 ⟨rfl, hb⟩
            go_wp2
            go_ret2
            exact IntPost.mk EE.out hb
          · have q1 : (ti == L) = false := by simp [q]
            have EE := hide (And.intro E1.out.1 (QE.out.trans (show decide (ti = L) = false by simp [q])))
            clear q c3
            go_wp2_with fail
            refine (DC.out _).mono ?_
            rintro e w1 ⟨rfl, hb⟩
            go_wp2
            go_ret2
            exact IntPost.mk EE.out hb
      · have QE : Hid (rdV s.data.toList = (N : Int) ∧ rdB s.data.toList = false) := hide ⟨E1.out.1, by rw [E1.out.2, decide_eq_false c3, Bool.false_and]⟩
        have d3 : decide ((N : Int) ≤ 144115188075855872) = false := decide_eq_false (by omega)
        by_cases z : 0 < s.size
        · have g0 := G0.out z
          have z1 : decide ((0 : Int) < (s.size : Int)) = true := decide_eq_true (by omega)
          clear c3
          go_wp2
          go_ret2
          exact IntPost.mk QE.out (Below.refl _ _)
        · have z1 : decide ((0 : Int) < (s.size : Int)) = false := decide_eq_false (by omega)
          clear c3
          go_wp2
          go_ret2
          exact IntPost.mk QE.out (Below.refl _ _)
set_option maxRecDepth 100000 in
set_option maxHeartbeats 4000000 in
theorem rint_neg (s : ByteArray) (w : World) (hs : s.size ≤ 4294967280) (h0 : 0 < s.size) (hm : (s[0].toNat : Int) = 45) : Calls Tryz.prog 78 #[.string s] w (IntPost s.data.toList w) := by
  have hd := head_byte s h0
  have e45 : s[0] = 45 := UInt8.toNat_inj.1 (by have : (45 : UInt8).toNat = 45 := rfl; omega)
  rw [e45] at hd
  have eT : rdT s.data.toList = s.data.toList.drop 1 := by unfold rdT; rw [if_pos hd, List.drop_one]
  have FIN := hide (fun N (h : rdD 0 (s.data.toList.drop 1) = some N) => rd_neg hd (by rw [eT]; exact h))
  have NON := hide (fun (h : rdD 0 (s.data.toList.drop 1) = none) => rd_none (l := s.data.toList) (by rw [eT]; exact h))
  have g0 : ((s[0].toNat : Int) == 45) = true := by simp [hm]
  clear hd e45 eT hm
  go_enter Tryz.func78, Tryz.ntmps78
  go_wp2
  go_loop [4, 5] (fun v4 v5 => ∃ i N : Nat, i ≤ s.size ∧ v5 = .int .i64 i ∧ v4 = .int .i64 N ∧ (N : Int) ≤ 1441151880758558729 ∧ Hid (((i = 0 ∧ N = 0) ∨ (1 ≤ i ∧ rdD 0 (s.data.toList.drop 1) = rdD N (s.data.toList.drop i))))) (fun _ v5 => s.size - (intOf v5).toNat)
  case atStart => exact ⟨0, 0, Nat.zero_le _, rfl, rfl, by decide, hide (.inl ⟨rfl, rfl⟩)⟩
  case round =>
    obtain ⟨i, N, hi, rfl, rfl, hN, HI⟩ := hrel
    by_cases hlt : i < s.size
    · by_cases i0 : i = 0
      · subst i0
        rcases HI.out with ⟨_, hz⟩ | ⟨hz, _⟩
        · subst hz
          clear HI
          go_wp2
          go_round
          case rel => exact ⟨1, 0, by omega, by go_num, rfl, by decide, hide (.inr ⟨Nat.le_refl _, rfl⟩)⟩
          case measure => simp [intOf]; omega
        · omega
      have q0 : ((i : Int) == 0) = false := by simp [i0]
      have HJ : Hid (rdD 0 (s.data.toList.drop 1) = rdD N (s.data.toList.drop i)) := hide (by rcases HI.out with ⟨h, _⟩ | ⟨_, h⟩ <;> first | omega | exact h)
      clear HI i0
      have DB := hide (drop_byteD s i hlt)
      have hc := byteD s[i]
      generalize hci : (s[i].toNat : Int) = c at *
      by_cases c1 : c < 48
      · have E := hide (NON.out (by rw [HJ.out, DB.out]; exact rdD_stop (.inl (by omega))))
        have d1 : decide (c < 48) = true := decide_eq_true c1
        clear HJ DB
        go_wp2
        go_ret2
        exact IntPost.mk E.out (Below.refl _ _)
      have d1 : decide (c < 48) = false := decide_eq_false c1
      by_cases c2 : 57 < c
      · have E := hide (NON.out (by rw [HJ.out, DB.out]; exact rdD_stop (.inr (.inl (by omega)))))
        have d2 : decide (57 < c) = true := decide_eq_true c2
        clear HJ DB
        go_wp2
        go_ret2
        exact IntPost.mk E.out (Below.refl _ _)
      have d2 : decide (57 < c) = false := decide_eq_false c2
      by_cases c3 : 144115188075855872 < (N : Int)
      · have E := hide (NON.out (by rw [HJ.out, DB.out]; exact rdD_stop (.inr (.inr c3))))
        have d3 : decide (144115188075855872 < (N : Int)) = true := decide_eq_true c3
        clear HJ DB
        go_wp2
        go_ret2
        exact IntPost.mk E.out (Below.refl _ _)
      have d3 : decide (144115188075855872 < (N : Int)) = false := decide_eq_false c3
      obtain ⟨d, rfl⟩ : ∃ d : Nat, c = 48 + (d : Int) := ⟨(c - 48).toNat, by omega⟩
      have d9 : d ≤ 9 := by omega
      have HJ2 : Hid (rdD 0 (s.data.toList.drop 1) = rdD (N * 10 + d) (s.data.toList.drop (i + 1))) := hide (by rw [HJ.out, DB.out]; exact rdD_go hci d9 (by omega))
      have bN : ((N * 10 + d : Nat) : Int) ≤ 1441151880758558729 := by omega
      clear HJ DB c1 c2 c3 hc
      go_wp2
      go_round
      case rel => exact ⟨i + 1, N * 10 + d, by omega, by go_num, by go_num, bN, hide (.inr ⟨by omega, HJ2.out⟩)⟩
      case measure => simp [intOf]; omega
    · obtain rfl : i = s.size := by omega
      have hnil : s.data.toList.drop s.size = [] := List.drop_of_length_le (by simp)
      have E := FIN.out N (by rcases HI.out with ⟨h, _⟩ | ⟨_, h⟩ <;> first | omega | (rw [h, hnil]; rfl))
      have z1 : decide ((0 : Int) < (s.size : Int)) = true := decide_eq_true (by omega)
      clear HI FIN NON hnil
      have E1 := hide E
      clear E
      have DC := hide (fun W => rdec_any (-(N : Int)) W (by omega) (by omega))
      have TL := ByteArray.toList_eq s
      by_cases c3 : N ≤ 144115188075855872
      · have QE : Hid (rdB s.data.toList = decide (Lib.itoa (-(N : Int)) = s.data.toList)) := hide (by rw [E1.out.2, decide_eq_true c3, Bool.true_and])
        have d3 : decide (-(N : Int) ≤ 144115188075855872) = true := decide_eq_true (by omega)
        have d4 : decide (-144115188075855872 ≤ -(N : Int)) = true := decide_eq_true (by omega)
        have d5 : decide ((N : Int) ≤ 144115188075855872) = true := decide_eq_true (by omega)
        generalize Lib.itoa (-(N : Int)) = ti at *
        generalize hL : s.data.toList = L at *
        clear hL
        by_cases q : ti = L
        · have q1 : (ti == L) = true := by simp [q]
          have EE := hide (And.intro E1.out.1 (QE.out.trans (show decide (ti = L) = true by simp [q])))
          clear q c3
          go_wp2_with fail
          refine (DC.out _).mono ?_
          rintro e w1 ⟨rfl, hb⟩
          go_wp2
          go_ret2
          exact IntPost.mk EE.out hb
        · have q1 : (ti == L) = false := by simp [q]
          have EE := hide (And.intro E1.out.1 (QE.out.trans (show decide (ti = L) = false by simp [q])))
          clear q c3
          go_wp2_with fail
          refine (DC.out _).mono ?_
          rintro e w1 ⟨rfl, hb⟩
          go_wp2
          go_ret2
          exact IntPost.mk EE.out hb
      · have QE : Hid (rdV s.data.toList = (-(N : Int)) ∧ rdB s.data.toList = false) := hide ⟨E1.out.1, by rw [E1.out.2, decide_eq_false c3, Bool.false_and]⟩
        have d3 : decide (-(N : Int) ≤ 144115188075855872) = true := decide_eq_true (by omega)
        have d4 : decide (-144115188075855872 ≤ -(N : Int)) = false := decide_eq_false (by omega)
        have d5 : decide ((N : Int) ≤ 144115188075855872) = false := decide_eq_false (by omega)
        clear c3
        go_wp2
        go_ret2
        exact IntPost.mk QE.out (Below.refl _ _)
end Go.Proofs.YtlnlaopokelggaaGreatDoor

namespace Go.Proofs.YtlnlaopokelggaaGreatDoor
open Go Go.RowKit

theorem rint_any (s : ByteArray) (w : World) (hs : s.size ≤ 4294967280) : Calls Tryz.prog 78 #[.string s] w (IntPost s.data.toList w) := by
  by_cases h0 : 0 < s.size
  · by_cases hm : (s[0].toNat : Int) = 45
    · exact rint_neg s w hs h0 hm
    · exact rint_pos s w hs (fun _ => hm)
  · exact rint_pos s w hs (fun h => absurd h h0)
theorem rint_list (l : List UInt8) (t : ByteArray) (w : World) (hl : l.length ≤ 4294967280) (e : t.data.toList = l) : Calls Tryz.prog 78 #[.string t] w (IntPost l w) := by
  subst e
  exact rint_any t w (by simpa using hl)
theorem rdV_bd (l : List UInt8) : rdB l = true → -9223372036854775808 ≤ rdV l ∧ rdV l ≤ 9223372036854775807 := fun h => by have := rd_inv h; omega
def rsR (l : List UInt8) : Sp := if rsB l then rsS l else Sp.zero
def rsE (l : List UInt8) : Int := if rsB l then 0 else 7
theorem rs_no {l : List UInt8} (h : rsB l = false) : rsR l = ⟨0, 0⟩ ∧ rsE l = 7 := by unfold rsR rsE; rw [h]; exact ⟨rfl, rfl⟩
theorem rs_ok {l : List UInt8} (h : rsB l = true) : rsR l = rsS l ∧ rsE l = 0 := by unfold rsR rsE; rw [h]; exact ⟨rfl, rfl⟩
theorem take_ext (s : ByteArray) (i : Nat) : (s.extract 0 i).data.toList = s.data.toList.take i := by
  simp [ByteArray.data_extract]
theorem drop_ext (s : ByteArray) (i : Nat) : (s.extract i s.size).data.toList = s.data.toList.drop i := by
  have : s.size = s.data.toList.length := by simp
  simp [ByteArray.data_extract]
  rw [List.take_of_length_le]
  simp
theorem rs_defs (s : ByteArray) : (rsB s.data.toList = if dots s.data.toList < s.size then rdB (s.data.toList.take (dots s.data.toList)) && rdB (s.data.toList.drop (dots s.data.toList + 2)) && decide (rdV (s.data.toList.take (dots s.data.toList)) < rdV (s.data.toList.drop (dots s.data.toList + 2))) && vB ⟨rdV (s.data.toList.take (dots s.data.toList)), rdV (s.data.toList.drop (dots s.data.toList + 2))⟩
    else rdB s.data.toList && vB ⟨rdV s.data.toList, rdV s.data.toList⟩) ∧
    (rsS s.data.toList = if dots s.data.toList < s.size then ⟨rdV (s.data.toList.take (dots s.data.toList)), rdV (s.data.toList.drop (dots s.data.toList + 2))⟩ else ⟨rdV s.data.toList, rdV s.data.toList⟩) := by
  have e : s.size = s.data.toList.length := by simp
  rw [e]
  exact ⟨rfl, rfl⟩
theorem dots_step {c d : UInt8} {r : List UInt8} (h : ¬ (c = 46 ∧ d = 46)) : dots (c :: d :: r) = dots (d :: r) + 1 := by
  rw [dots, if_neg]
  rintro ⟨h1, h2⟩
  exact h ⟨h1, by simpa using h2⟩
theorem dots_one (c : UInt8) : dots [c] = 1 := by simp [dots]
set_option maxRecDepth 100000 in
set_option maxHeartbeats 4000000 in
theorem rparse_any (s : ByteArray) (w : World) (hs : s.size ≤ 4294967280) : Calls Tryz.prog 49 #[.string s] w (RetSE (rsR s.data.toList) (rsE s.data.toList) w) := by
  have X := (Own.start w).alloc #[.int .i64 0, .int .i64 0] 40
  have hr := X.r1
  have N := hide (fun h => rs_no (l := s.data.toList) h)
  have Y := hide (fun h => rs_ok (l := s.data.toList) h)
  have RB := hide (rs_defs s).1
  have RS := hide (rs_defs s).2
  generalize rsR s.data.toList = pr at *
  generalize rsE s.data.toList = pe at *
  generalize rsB s.data.toList = pb at *
  generalize rsS s.data.toList = ps at *
  go_enter Tryz.func49, Tryz.ntmps49
  go_wp2
  go_loop [4] (fun v4 => ∃ i : Nat, i ≤ s.size ∧ v4 = .int .i64 i ∧ Hid (dots s.data.toList = i + dots (s.data.toList.drop i))) (fun v4 => s.size - (intOf v4).toNat)
  case atStart => exact ⟨0, Nat.zero_le _, rfl, hide (by simp)⟩
  case round =>
    obtain ⟨i, hi, rfl, HI⟩ := hrel
    by_cases hlt : i + 1 < s.size
    · have DB := hide (drop_byteD s i (by omega))
      have DB2 := hide (drop_byteD s (i + 1) (by omega))
      by_cases f : (s[i].toNat : Int) = 46 ∧ (s[i + 1].toNat : Int) = 46
      · have q1 : ((s[i].toNat : Int) == 46) = true := by simp [f.1]
        have q2 : ((s[i + 1].toNat : Int) == 46) = true := by simp [f.2]
        have e1 : s[i] = 46 := UInt8.toNat_inj.1 (by have : (46 : UInt8).toNat = 46 := rfl; omega)
        have e2 : s[i + 1] = 46 := UInt8.toNat_inj.1 (by have : (46 : UInt8).toNat = 46 := rfl; omega)
        have DT : dots s.data.toList = i := by
          rw [HI.out, DB.out, DB2.out, e1, e2]
          simp [dots]
        have RB' := RB.out
        have RS' := RS.out
        rw [DT, if_pos (by omega)] at RB' RS'
        have P1 := hide (fun W => rint_list (s.data.toList.take i) (s.extract 0 i) W (by simp; omega) (take_ext s i))
        have P2 := hide (fun W => rint_list (s.data.toList.drop (i + 2)) (s.extract (i + 2) s.size) W (by simp; omega) (drop_ext s (i + 2)))
        have RB2 := hide RB'
        have RS2 := hide RS'
        have DT2 := hide DT
        have q3 : decide ((i : Int) + 1 < (s.size : Int)) = true := decide_eq_true (by omega)
        have bL := rdV_bd (s.data.toList.take i)
        have bH := rdV_bd (s.data.toList.drop (i + 2))
        clear RB RS RB' RS' DT HI DB DB2 e1 e2 f
        have V := hide (fun W => rvalid_any ⟨rdV (s.data.toList.take i), rdV (s.data.toList.drop (i + 2))⟩ W)
        generalize vB ⟨rdV (s.data.toList.take i), rdV (s.data.toList.drop (i + 2))⟩ = vv at *
        unfold IntPost at P1 P2
        generalize rdV (s.data.toList.take i) = x at *
        generalize rdV (s.data.toList.drop (i + 2)) = y at *
        generalize rdB (s.data.toList.take i) = b1 at *
        generalize rdB (s.data.toList.drop (i + 2)) = b2 at *
        go_wp2_with fail
        refine (P1.out _).mono ?_
        rintro e w1 ⟨rfl, hb⟩
        replace X := X.to hb
        clear hb hr
        have hr := X.r1
        go_wp2_with fail
        refine (P2.out _).mono ?_
        rintro e w2 ⟨rfl, hb⟩
        replace X := (X.to hb).alloc #[.int .i64 x, .int .i64 y] 40
        clear hb hr
        have hr := X.r2
        cases b1
        · have E := hide (N.out (by rw [RB2.out]; simp))
          clear V bL bH
          go_wp2
          exact bodyPost_ret (v := .tuple #[.agg #[.int .i64 0, .int .i64 0], .int .i64 7]) (by simp [results, Tryz.results49, hr, go_sem]) rfl (RetSE.mk (s' := ⟨0, 0⟩) (by have HX := X.1; have hz := HX.size; go_grown) E.out.1 E.out.2)
        cases b2
        · have E := hide (N.out (by rw [RB2.out]; simp))
          clear V bL bH
          go_wp2
          exact bodyPost_ret (v := .tuple #[.agg #[.int .i64 0, .int .i64 0], .int .i64 7]) (by simp [results, Tryz.results49, hr, go_sem]) rfl (RetSE.mk (s' := ⟨0, 0⟩) (by have HX := X.1; have hz := HX.size; go_grown) E.out.1 E.out.2)
        replace bL := bL rfl
        replace bH := bH rfl
        by_cases xy : x < y
        rotate_left
        · have E := hide (N.out (by rw [RB2.out]; simp [xy]))
          have q4 : decide (y ≤ x) = true := decide_eq_true (by omega)
          clear V xy
          go_wp2
          exact bodyPost_ret (v := .tuple #[.agg #[.int .i64 0, .int .i64 0], .int .i64 7]) (by simp [results, Tryz.results49, hr, go_sem]) rfl (RetSE.mk (s' := ⟨0, 0⟩) (by have HX := X.1; have hz := HX.size; go_grown) E.out.1 E.out.2)
        have q4 : decide (y ≤ x) = false := decide_eq_false (by omega)
        go_wp2_with fail
        refine (V.out _).mono ?_
        rintro e w4 ⟨rfl, hb⟩
        replace X := X.to hb
        clear hb hr
        have hr := X.r2
        cases vv
        · have E := hide (N.out (by rw [RB2.out]; simp))
          clear V xy
          go_wp2
          exact bodyPost_ret (v := .tuple #[.agg #[.int .i64 0, .int .i64 0], .int .i64 7]) (by simp [results, Tryz.results49, hr, go_sem]) rfl (RetSE.mk (s' := ⟨0, 0⟩) (by have HX := X.1; have hz := HX.size; go_grown) E.out.1 E.out.2)
        · have E := hide (Y.out (by rw [RB2.out]; simp [xy]))
          clear V xy
          go_wp2
          exact bodyPost_ret (v := .tuple #[.agg #[.int .i64 x, .int .i64 y], .int .i64 0]) (by simp [results, Tryz.results49, hr, go_sem]) rfl (RetSE.mk (s' := ⟨x, y⟩) (by have HX := X.1; have hz := HX.size; go_grown) (E.out.1.trans RS2.out) E.out.2)
      · have NX : Hid (dots s.data.toList = (i + 1) + dots (s.data.toList.drop (i + 1))) := hide (by
          rw [HI.out, DB.out, DB2.out, dots_step (fun h => f ⟨by rw [h.1]; rfl, by rw [h.2]; rfl⟩)]; omega)
        have q3 : decide ((i : Int) + 1 < (s.size : Int)) = true := decide_eq_true (by omega)
        by_cases f1 : (s[i].toNat : Int) = 46
        · have q1 : ((s[i].toNat : Int) == 46) = true := by simp [f1]
          have f2 : ¬ (s[i + 1].toNat : Int) = 46 := fun h => f ⟨f1, h⟩
          have q2 : ((s[i + 1].toNat : Int) == 46) = false := by simpa using f2
          clear f f1 f2 HI DB DB2
          go_wp2
          go_round
          case rel => exact ⟨i + 1, by omega, by go_num, NX⟩
          case measure => simp [intOf]; omega
        · have q1 : ((s[i].toNat : Int) == 46) = false := by simpa using f1
          clear f f1 HI DB DB2
          go_wp2
          go_round
          case rel => exact ⟨i + 1, by omega, by go_num, NX⟩
          case measure => simp [intOf]; omega
    · have DT : dots s.data.toList = s.size := by
        rw [HI.out]
        by_cases z : i = s.size
        · rw [z, List.drop_of_length_le (by simp)]; rfl
        · rw [drop_byteD s i (by omega), show i + 1 = s.size by omega, List.drop_of_length_le (by simp), dots_one]; omega
      have RB' := RB.out
      have RS' := RS.out
      rw [DT, if_neg (by omega)] at RB' RS'
      have RB2 := hide RB'
      have RS2 := hide RS'
      have q3 : decide ((i : Int) + 1 < (s.size : Int)) = false := decide_eq_false (by omega)
      have bL := rdV_bd s.data.toList
      have P1 := hide (fun W => rint_any s W hs)
      have V := hide (fun W => rvalid_any ⟨rdV s.data.toList, rdV s.data.toList⟩ W)
      clear RB RS RB' RS' DT HI
      unfold IntPost at P1
      generalize vB ⟨rdV s.data.toList, rdV s.data.toList⟩ = vv at *
      generalize rdV s.data.toList = x at *
      generalize rdB s.data.toList = b1 at *
      go_wp2_with fail
      refine (P1.out _).mono ?_
      rintro e w1 ⟨rfl, hb⟩
      replace X := (X.to hb).alloc #[.int .i64 x, .int .i64 x] 40
      clear hb hr
      have hr := X.r2
      cases b1
      · have E := hide (N.out (by rw [RB2.out]; simp))
        clear V bL
        go_wp2
        exact bodyPost_ret (v := .tuple #[.agg #[.int .i64 0, .int .i64 0], .int .i64 7]) (by simp [results, Tryz.results49, hr, go_sem]) rfl (RetSE.mk (s' := ⟨0, 0⟩) (by have HX := X.1; have hz := HX.size; go_grown) E.out.1 E.out.2)
      replace bL := bL rfl
      go_wp2_with fail
      refine (V.out _).mono ?_
      rintro e w4 ⟨rfl, hb⟩
      replace X := X.to hb
      clear hb hr
      have hr := X.r2
      cases vv
      · have E := hide (N.out (by rw [RB2.out]; simp))
        clear V
        go_wp2
        exact bodyPost_ret (v := .tuple #[.agg #[.int .i64 0, .int .i64 0], .int .i64 7]) (by simp [results, Tryz.results49, hr, go_sem]) rfl (RetSE.mk (s' := ⟨0, 0⟩) (by have HX := X.1; have hz := HX.size; go_grown) E.out.1 E.out.2)
      · have E := hide (Y.out (by rw [RB2.out]; simp))
        clear V
        go_wp2
        exact bodyPost_ret (v := .tuple #[.agg #[.int .i64 x, .int .i64 x], .int .i64 0]) (by simp [results, Tryz.results49, hr, go_sem]) rfl (RetSE.mk (s' := ⟨x, x⟩) (by have HX := X.1; have hz := HX.size; go_grown) (E.out.1.trans RS2.out) E.out.2)
end Go.Proofs.YtlnlaopokelggaaGreatDoor

namespace Go.Proofs.YtlnlaopokelggaaGreatDoor
open Go Go.RowKit

theorem ofn_any (n : Int) (w : World) : Calls Tryz.prog 52 #[.int .i64 n] w fun e w' => e = .returned (.agg #[.int .i64 n, .int .i64 n]) ∧ Below w.heap.size w w' := by
  go_enter Tryz.func52, Tryz.ntmps52
  go_wp2
  exact bodyPost_ret (v := .agg #[.int .i64 n, .int .i64 n]) (by simp [results, Tryz.results52, go_sem]) rfl ⟨rfl, by go_grown⟩
set_option maxHeartbeats 1000000 in
theorem conumber_any (n : Int) (w : World) (h0 : -72057594037927936 ≤ n) (h1 : n ≤ 72057594037927936) (ht : TxtW w) : Calls Tryz.prog 27 #[.int .i64 n] w (RetV (strV (Lib.itoa n)) w) := by
  have HT := hide ht
  have O := hide (fun W => ofn_any n W)
  have T : Hid (∀ W, TxtW W → Calls Tryz.prog 51 #[.agg #[.int .i64 n, .int .i64 n]] W (RetV (.tuple #[strV (Lib.itoa n), .int .i64 0]) W)) := hide (fun W hW => by
    have h := Text_any ⟨n, n⟩ W hW
    rw [if_pos (vB_iff.2 ⟨Int.le_refl _, h0, h1⟩), if_pos (vB_iff.2 ⟨Int.le_refl _, h0, h1⟩), show txS ⟨n, n⟩ = Lib.itoa n by unfold txS; rw [if_pos rfl]] at h
    exact h)
  clear ht h0 h1
  generalize Lib.itoa n = l at *
  go_enter Tryz.func27, Tryz.ntmps27
  go_wp2_with fail
  refine (O.out _).mono ?_
  rintro e w1 ⟨rfl, hb⟩
  go_wp2_with fail
  refine (T.out _ (HT.out.below hb)).mono ?_
  rintro e w2 ⟨rfl, hb2⟩
  have HB := hide (below_via hb hb.size hb2)
  clear hb hb2
  go_wp2
  go_ret
  exact ⟨rfl, HB.out⟩
theorem ct_no {l : List UInt8} (h : psB l = false) : ctB l = false ∧ ctV l = 0 := by unfold ctB ctV; rw [h]; exact ⟨rfl, rfl⟩
theorem ct_two {l : List UInt8} (h : psB l = true) (h2 : ¬ (psS l).lo = (psS l).hi) : ctB l = false ∧ ctV l = (psS l).lo := by unfold ctB ctV; rw [h, decide_eq_false h2]; exact ⟨rfl, rfl⟩
theorem ct_one {l : List UInt8} (h : psB l = true) (h2 : (psS l).lo = (psS l).hi) : ctB l = true ∧ ctV l = (psS l).lo := by unfold ctB ctV; rw [h, decide_eq_true h2]; exact ⟨rfl, rfl⟩
set_option maxRecDepth 100000 in
set_option maxHeartbeats 1000000 in
theorem coread_any (l : List UInt8) (w : World) (hl : l.length ≤ 4294967280) (ht : TxtW w) : Calls Tryz.prog 21 #[strV l] w (RetV (.tuple #[.int .i64 (ctV l), .bool (ctB l)]) w) := by
  have HT := hide ht
  have P := hide (fun W hW => Parse_any l W hl hW)
  unfold RetSE at P
  clear ht hl
  cases hp : psB l with
  | false =>
    obtain ⟨p1, p2⟩ := ps_no hp
    have E := hide (ct_no hp)
    rw [p1, p2] at P
    clear p1 p2 hp
    go_enter Tryz.func21, Tryz.ntmps21
    go_wp2_with fail
    refine (P.out _ HT.out).mono ?_
    rintro e w1 ⟨rfl, hb⟩
    have X := (show Own w w1 [] from ⟨hb, fun _ h => by cases h⟩).alloc #[.int .i64 0, .int .i64 0] 40
    have NE : Nonempty (OwnW w [(w1.heap.size, 40, #[.int .i64 0, .int .i64 0])]) := ⟨⟨_, X⟩⟩
    have C1 := fun z : OwnW w [(w1.heap.size, 40, #[.int .i64 0, .int .i64 0])] => z.own.r1
    have HX := hide X
    clear hb X
    go_wp2_with fail
    refine wp_region_own (w := w) (L := [(w1.heap.size, 40, #[.int .i64 0, .int .i64 0])]) (by kernel_rfl) (by kernel_rfl) HX.out ?_
    repeat (go_big_quiet_step (fail))
    refine wpQuiet_nil ?_
    rintro _ ⟨⟨W, HX⟩, rfl⟩
    go_wp2
    go_ret2
    exact ⟨by rw [E.out.1, E.out.2]; rfl, HX.1⟩
  | true =>
    obtain ⟨p1, p2⟩ := ps_ok hp
    rw [p1, p2, show (psS l).val = .agg #[.int .i64 (psS l).lo, .int .i64 (psS l).hi] from rfl] at P
    by_cases h2 : (psS l).lo = (psS l).hi
    · have E := hide (ct_one hp h2)
      obtain ⟨b1, b2, b3⟩ := ct_back E.out.1
      rw [E.out.2] at b1 b2 b3
      have N := hide (fun W hW => conumber_any (psS l).lo W b2 b3 hW)
      rw [b1] at N
      rw [← h2] at P
      clear p1 p2 b1 b2 b3 hp h2
      generalize (psS l).lo = x at *
      have q : ((⟨l.toArray⟩ : ByteArray).toList == (⟨l.toArray⟩ : ByteArray).toList) = true := by simp
      have q1 : (x == x) = true := by simp
      go_enter Tryz.func21, Tryz.ntmps21
      go_wp2_with fail
      refine (P.out _ HT.out).mono ?_
      rintro e w1 ⟨rfl, hb⟩
      have X := (show Own w w1 [] from ⟨hb, fun _ h => by cases h⟩).alloc #[.int .i64 x, .int .i64 x] 40
      have NE : Nonempty (OwnW w [(w1.heap.size, 40, #[.int .i64 x, .int .i64 x])]) := ⟨⟨_, X⟩⟩
      have C1 := fun z : OwnW w [(w1.heap.size, 40, #[.int .i64 x, .int .i64 x])] => z.own.r1
      have K1 := fun z : OwnW w [(w1.heap.size, 40, #[.int .i64 x, .int .i64 x])] => N.out z.1 (HT.out.below z.own.1)
      have HX := hide X
      clear hb X
      go_wp2_with fail
      refine wp_region_own (w := w) (L := [(w1.heap.size, 40, #[.int .i64 x, .int .i64 x])]) (by kernel_rfl) (by kernel_rfl) HX.out ?_
      repeat (go_big_quiet_step ((rename_i x; first | exact own_call (K1 _))))
      refine wpQuiet_nil ?_
      rintro _ ⟨⟨W, HX⟩, rfl⟩
      go_wp2
      go_ret2
      exact ⟨by rw [E.out.1, E.out.2]; rfl, HX.1⟩
    · have E := hide (ct_two hp h2)
      clear p1 p2 hp
      generalize (psS l).lo = x at *
      generalize (psS l).hi = y at *
      have q1 : (x == y) = false := by simp [h2]
      clear h2
      go_enter Tryz.func21, Tryz.ntmps21
      go_wp2_with fail
      refine (P.out _ HT.out).mono ?_
      rintro e w1 ⟨rfl, hb⟩
      have X := (show Own w w1 [] from ⟨hb, fun _ h => by cases h⟩).alloc #[.int .i64 x, .int .i64 y] 40
      have NE : Nonempty (OwnW w [(w1.heap.size, 40, #[.int .i64 x, .int .i64 y])]) := ⟨⟨_, X⟩⟩
      have C1 := fun z : OwnW w [(w1.heap.size, 40, #[.int .i64 x, .int .i64 y])] => z.own.r1
      have HX := hide X
      clear hb X
      go_wp2_with fail
      refine wp_region_own (w := w) (L := [(w1.heap.size, 40, #[.int .i64 x, .int .i64 y])]) (by kernel_rfl) (by kernel_rfl) HX.out ?_
      repeat (go_big_quiet_step (fail))
      refine wpQuiet_nil ?_
      rintro _ ⟨⟨W, HX⟩, rfl⟩
      go_wp2
      go_ret2
      exact ⟨by rw [E.out.1, E.out.2]; rfl, HX.1⟩
theorem rct_eq (l : List UInt8) : ctB l = (rsB l && decide ((rsS l).lo = (rsS l).hi)) ∧ ctV l = (rsR l).lo := by
  obtain ⟨h1, h2⟩ := reads_same l
  unfold ctB ctV rsR
  cases h : rsB l with
  | false => rw [h1, h]; exact ⟨rfl, rfl⟩
  | true => rw [h1, h, h2 h]; exact ⟨rfl, rfl⟩
set_option maxRecDepth 100000 in
set_option maxHeartbeats 1000000 in
theorem rnumber_any (s : ByteArray) (w : World) (hs : s.size ≤ 4294967280) : Calls Tryz.prog 25 #[.string s] w (RetV (.tuple #[.int .i64 (ctV s.data.toList), .bool (ctB s.data.toList)]) w) := by
  have P := hide (fun W => rparse_any s W hs)
  have HT := hide trivial
  have EE := rct_eq s.data.toList
  unfold RetSE at P
  clear hs
  generalize s.data.toList = l at *
  cases hp : rsB l with
  | false =>
    obtain ⟨p1, p2⟩ := rs_no hp
    have E : Hid (ctV l = 0 ∧ ctB l = false) := hide (by rw [EE.1, EE.2, hp, p1]; exact ⟨rfl, rfl⟩)
    rw [p1, p2] at P
    clear p1 p2 hp EE
    go_enter Tryz.func25, Tryz.ntmps25
    go_wp2_with fail
    refine (P.out _).mono ?_
    rintro e w1 ⟨rfl, hb⟩
    have X := (show Own w w1 [] from ⟨hb, fun _ h => by cases h⟩).alloc #[.int .i64 0, .int .i64 0] 40
    have NE : Nonempty (OwnW w [(w1.heap.size, 40, #[.int .i64 0, .int .i64 0])]) := ⟨⟨_, X⟩⟩
    have C1 := fun z : OwnW w [(w1.heap.size, 40, #[.int .i64 0, .int .i64 0])] => z.own.r1
    have HX := hide X
    clear hb X
    go_wp2_with fail
    refine wp_region_own (w := w) (L := [(w1.heap.size, 40, #[.int .i64 0, .int .i64 0])]) (by kernel_rfl) (by kernel_rfl) HX.out ?_
    repeat (go_big_quiet_step (fail))
    refine wpQuiet_nil ?_
    rintro _ ⟨⟨W, HX⟩, rfl⟩
    go_wp2
    go_ret2
    exact ⟨by rw [E.out.1, E.out.2]; rfl, HX.1⟩
  | true =>
    obtain ⟨p1, p2⟩ := rs_ok hp
    rw [p1, p2, show (rsS l).val = .agg #[.int .i64 (rsS l).lo, .int .i64 (rsS l).hi] from rfl] at P
    rw [hp, p1] at EE
    clear p1 p2 hp
    generalize (rsS l).lo = x at *
    generalize (rsS l).hi = y at *
    have E : Hid (ctB l = decide (x = y) ∧ ctV l = x) := hide ⟨by rw [EE.1]; simp, EE.2⟩
    clear EE
    by_cases h2 : x = y
    · rw [decide_eq_true h2] at E
      have q1 : (x == y) = true := by simp [h2]
      clear h2
      go_enter Tryz.func25, Tryz.ntmps25
      go_wp2_with fail
      refine (P.out _).mono ?_
      rintro e w1 ⟨rfl, hb⟩
      have X := (show Own w w1 [] from ⟨hb, fun _ h => by cases h⟩).alloc #[.int .i64 x, .int .i64 y] 40
      have NE : Nonempty (OwnW w [(w1.heap.size, 40, #[.int .i64 x, .int .i64 y])]) := ⟨⟨_, X⟩⟩
      have C1 := fun z : OwnW w [(w1.heap.size, 40, #[.int .i64 x, .int .i64 y])] => z.own.r1
      have HX := hide X
      clear hb X
      go_wp2_with fail
      refine wp_region_own (w := w) (L := [(w1.heap.size, 40, #[.int .i64 x, .int .i64 y])]) (by kernel_rfl) (by kernel_rfl) HX.out ?_
      repeat (go_big_quiet_step (fail))
      refine wpQuiet_nil ?_
      rintro _ ⟨⟨W, HX⟩, rfl⟩
      go_wp2
      go_ret2
      exact ⟨by rw [E.out.1, E.out.2]; rfl, HX.1⟩
    · rw [decide_eq_false h2] at E
      have q1 : (x == y) = false := by simp [h2]
      clear h2
      go_enter Tryz.func25, Tryz.ntmps25
      go_wp2_with fail
      refine (P.out _).mono ?_
      rintro e w1 ⟨rfl, hb⟩
      have X := (show Own w w1 [] from ⟨hb, fun _ h => by cases h⟩).alloc #[.int .i64 x, .int .i64 y] 40
      have NE : Nonempty (OwnW w [(w1.heap.size, 40, #[.int .i64 x, .int .i64 y])]) := ⟨⟨_, X⟩⟩
      have C1 := fun z : OwnW w [(w1.heap.size, 40, #[.int .i64 x, .int .i64 y])] => z.own.r1
      have HX := hide X
      clear hb X
      go_wp2_with fail
      refine wp_region_own (w := w) (L := [(w1.heap.size, 40, #[.int .i64 x, .int .i64 y])]) (by kernel_rfl) (by kernel_rfl) HX.out ?_
      repeat (go_big_quiet_step (fail))
      refine wpQuiet_nil ?_
      rintro _ ⟨⟨W, HX⟩, rfl⟩
      go_wp2
      go_ret2
      exact ⟨by rw [E.out.1, E.out.2]; rfl, HX.1⟩
end Go.Proofs.YtlnlaopokelggaaGreatDoor
