/- The reference's Int (sewershedref04): the int with a decimal text, and whether there is one; nothing that was there is turned (printed by gen_sptxr.py). -/
import Derived.Test.YtgflgnbbkhikcaaDoorSpTxR
namespace Go.Proofs.YtgflgnbbkhikcaaDoor
open Go Go.RowKit

theorem drop_byteD (s : ByteArray) (k : Nat) (h : k < s.size) : s.data.toList.drop k = s[k] :: s.data.toList.drop (k + 1) := by
  rw [List.drop_eq_getElem_cons (by simpa using h)]; rfl
theorem byteD (b : UInt8) : (0 : Int) ≤ (b.toNat : Int) ∧ (b.toNat : Int) < 256 := ⟨by omega, by have := b.toNat_lt; omega⟩
theorem head_byte (s : ByteArray) (h : 0 < s.size) : s.data.toList.head? = some s[0] := by
  have := drop_byteD s 0 h
  rw [List.drop_zero] at this
  rw [this]; rfl
def IntPost (l : List UInt8) (w : World) (e : Ending) (w' : World) : Prop := e = .returned (.tuple #[.int .i64 (rdV l), .bool (rdB l)]) ∧ Below w.heap.size w w'
theorem IntPost.mk {l : List UInt8} {v : Int} {b : Bool} {w w' : World} (h : rdV l = v ∧ rdB l = b) (hb : Below w.heap.size w w') : IntPost l w (.returned (.tuple #[.int .i64 v, .bool b])) w' := by obtain ⟨rfl, rfl⟩ := h; exact ⟨rfl, hb⟩
theorem rd_none {l : List UInt8} (h : rdD 0 (rdT l) = none) : rdV l = 0 ∧ rdB l = false := by simp [rdV, rdB, h]
theorem rd_pos {l : List UInt8} {N : Nat} (hh : l.head? ≠ some 45) (h : rdD 0 (rdT l) = some N) : rdV l = N ∧ rdB l = (decide (N ≤ 144115188075855872) && decide (Lib.itoa (N : Int) = l)) := by
  have e : rdV l = N := by simp [rdV, h, hh]
  refine ⟨e, ?_⟩
  unfold rdB
  rw [h, e]
  have h1 : decide (-144115188075855872 ≤ (N : Int)) = true := decide_eq_true (by omega)
  have h2 : decide ((N : Int) ≤ 144115188075855872) = decide (N ≤ 144115188075855872) := by congr 1; apply propext; omega
  simp only [h1, h2, Bool.and_true]
theorem rd_neg {l : List UInt8} {N : Nat} (hh : l.head? = some 45) (h : rdD 0 (rdT l) = some N) : rdV l = -(N : Int) ∧ rdB l = (decide (N ≤ 144115188075855872) && decide (Lib.itoa (-(N : Int)) = l)) := by
  have e : rdV l = -(N : Int) := by simp [rdV, h, hh]
  refine ⟨e, ?_⟩
  unfold rdB
  rw [h, e]
  have h1 : decide (-(N : Int) ≤ 144115188075855872) = true := decide_eq_true (by omega)
  have h2 : decide (-144115188075855872 ≤ -(N : Int)) = decide (N ≤ 144115188075855872) := by congr 1; apply propext; omega
  simp only [h1, h2, Bool.true_and]
theorem rdD_stop {N : Nat} {c : UInt8} {r : List UInt8} (h : (c.toNat : Int) < 48 ∨ 57 < (c.toNat : Int) ∨ 144115188075855872 < (N : Int)) : rdD N (c :: r) = none := by
  rw [rdD, if_pos]
  rcases h with h | h | h
  · exact .inl (decide_eq_false (by omega))
  · exact .inl (decide_eq_false (by omega))
  · exact .inr (by omega)
theorem rdD_go {N d : Nat} {c : UInt8} {r : List UInt8} (h : (c.toNat : Int) = 48 + d) (hd : d ≤ 9) (hN : N ≤ 144115188075855872) : rdD N (c :: r) = rdD (N * 10 + d) r := by
  rw [rdD, if_neg]
  · congr 2; omega
  · rw [not_or]
    exact ⟨by rw [show dgB c = true from decide_eq_true (by omega)]; simp, by omega⟩

set_option maxRecDepth 100000 in
set_option maxHeartbeats 4000000 in
theorem rint_pos (s : ByteArray) (w : World) (hs : s.size ≤ 4294967280) (hm : ∀ h : 0 < s.size, (s[0].toNat : Int) ≠ 45) : Calls Tryd.prog 57 #[.string s] w (IntPost s.data.toList w) := by
  have hd : s.data.toList.head? ≠ some 45 := fun e => by
    by_cases h0 : 0 < s.size
    · rw [head_byte s h0] at e
      injection e with e
      exact hm h0 (by rw [e]; rfl)
    · have : s.data.toList = [] := by apply List.eq_nil_of_length_eq_zero; simpa using (show s.size = 0 by omega)
      rw [this] at e; simp at e
  have eT : rdT s.data.toList = s.data.toList := by unfold rdT; rw [if_neg hd]
  have FIN := hide (fun N (h : rdD 0 s.data.toList = some N) => rd_pos hd (by rw [eT]; exact h))
  have NON := hide (fun (h : rdD 0 s.data.toList = none) => rd_none (l := s.data.toList) (by rw [eT]; exact h))
  have G0 : Hid (∀ h : 0 < s.size, ((s[0].toNat : Int) == 45) = false) := hide fun h => by have := hm h; simpa using this
  clear hd eT hm
  go_enter Tryd.func57, Tryd.ntmps57
  go_wp2
  go_loop [4, 5] (fun v4 v5 => ∃ i N : Nat, i ≤ s.size ∧ v5 = .int .i64 i ∧ v4 = .int .i64 N ∧ (N : Int) ≤ 1441151880758558729 ∧ Hid (rdD 0 s.data.toList = rdD N (s.data.toList.drop i))) (fun _ v5 => s.size - (intOf v5).toNat)
  case atStart => exact ⟨0, 0, Nat.zero_le _, rfl, rfl, by decide, hide (by rw [List.drop_zero])⟩
  case round =>
    obtain ⟨i, N, hi, rfl, rfl, hN, HI⟩ := hrel
    by_cases hlt : i < s.size
    · have HJ := HI
      clear HI
      by_cases i0 : i = 0
      · subst i0
        have g0 := G0.out hlt
        have DB := hide (drop_byteD s 0 hlt)
        have hc := byteD s[0]
        generalize hci : (s[0].toNat : Int) = c at *
        by_cases c1 : c < 48
        · have E := hide (NON.out (by rw [HJ.out, DB.out]; exact rdD_stop (.inl (by omega))))
          have d1 : decide (c < 48) = true := decide_eq_true c1
          clear HJ DB
          go_wp2
          go_ret2
          exact IntPost.mk E.out (Below.refl _ _)
        have d1 : decide (c < 48) = false := decide_eq_false c1
        by_cases c2 : 57 < c
        · have E := hide (NON.out (by rw [HJ.out, DB.out]; exact rdD_stop (.inr (.inl (by omega)))))
          have d2 : decide (57 < c) = true := decide_eq_true c2
          clear HJ DB
          go_wp2
          go_ret2
          exact IntPost.mk E.out (Below.refl _ _)
        have d2 : decide (57 < c) = false := decide_eq_false c2
        by_cases c3 : 144115188075855872 < (N : Int)
        · have E := hide (NON.out (by rw [HJ.out, DB.out]; exact rdD_stop (.inr (.inr c3))))
          have d3 : decide (144115188075855872 < (N : Int)) = true := decide_eq_true c3
          clear HJ DB
          go_wp2
          go_ret2
          exact IntPost.mk E.out (Below.refl _ _)
        have d3 : decide (144115188075855872 < (N : Int)) = false := decide_eq_false c3
        obtain ⟨d, rfl⟩ : ∃ d : Nat, c = 48 + (d : Int) := ⟨(c - 48).toNat, by omega⟩
        have d9 : d ≤ 9 := by omega
        have HJ2 : Hid (rdD 0 s.data.toList = rdD (N * 10 + d) (s.data.toList.drop (0 + 1))) := hide (by rw [HJ.out, DB.out]; exact rdD_go hci d9 (by omega))
        have bN : ((N * 10 + d : Nat) : Int) ≤ 1441151880758558729 := by omega
        clear HJ DB c1 c2 c3 hc
        go_wp2
        go_round
        case rel => exact ⟨0 + 1, N * 10 + d, by omega, by go_num, by go_num, bN, hide HJ2.out⟩
        case measure => simp [intOf]; omega
      · have q0 : ((i : Int) == 0) = false := by simp [i0]
        clear i0
        have DB := hide (drop_byteD s i hlt)
        have hc := byteD s[i]
        generalize hci : (s[i].toNat : Int) = c at *
        by_cases c1 : c < 48
        · have E := hide (NON.out (by rw [HJ.out, DB.out]; exact rdD_stop (.inl (by omega))))
          have d1 : decide (c < 48) = true := decide_eq_true c1
          clear HJ DB
          go_wp2
          go_ret2
          exact IntPost.mk E.out (Below.refl _ _)
        have d1 : decide (c < 48) = false := decide_eq_false c1
        by_cases c2 : 57 < c
        · have E := hide (NON.out (by rw [HJ.out, DB.out]; exact rdD_stop (.inr (.inl (by omega)))))
          have d2 : decide (57 < c) = true := decide_eq_true c2
          clear HJ DB
          go_wp2
          go_ret2
          exact IntPost.mk E.out (Below.refl _ _)
        have d2 : decide (57 < c) = false := decide_eq_false c2
        by_cases c3 : 144115188075855872 < (N : Int)
        · have E := hide (NON.out (by rw [HJ.out, DB.out]; exact rdD_stop (.inr (.inr c3))))
          have d3 : decide (144115188075855872 < (N : Int)) = true := decide_eq_true c3
          clear HJ DB
          go_wp2
          go_ret2
          exact IntPost.mk E.out (Below.refl _ _)
        have d3 : decide (144115188075855872 < (N : Int)) = false := decide_eq_false c3
        obtain ⟨d, rfl⟩ : ∃ d : Nat, c = 48 + (d : Int) := ⟨(c - 48).toNat, by omega⟩
        have d9 : d ≤ 9 := by omega
        have HJ2 : Hid (rdD 0 s.data.toList = rdD (N * 10 + d) (s.data.toList.drop (i + 1))) := hide (by rw [HJ.out, DB.out]; exact rdD_go hci d9 (by omega))
        have bN : ((N * 10 + d : Nat) : Int) ≤ 1441151880758558729 := by omega
        clear HJ DB c1 c2 c3 hc
        go_wp2
        go_round
        case rel => exact ⟨i + 1, N * 10 + d, by omega, by go_num, by go_num, bN, hide HJ2.out⟩
        case measure => simp [intOf]; omega
    · obtain rfl : i = s.size := by omega
      have hnil : s.data.toList.drop s.size = [] := List.drop_of_length_le (by simp)
      have E := FIN.out N (by rw [HI.out, hnil]; rfl)
      have LX := ByteArray.toList_eq s
      clear HI FIN NON hnil
      have E1 := hide E
      clear E
      have DC := hide (fun W => rdec_any ((N : Int)) W (by omega) (by omega))
      have TL := ByteArray.toList_eq s
      by_cases c3 : N ≤ 144115188075855872
      · have QE : Hid (rdB s.data.toList = decide (Lib.itoa (N : Int) = s.data.toList)) := hide (by rw [E1.out.2, decide_eq_true c3, Bool.true_and])
        have d3 : decide ((N : Int) ≤ 144115188075855872) = true := decide_eq_true (by omega)
        have d4 : decide (-144115188075855872 ≤ (N : Int)) = true := decide_eq_true (by omega)
        generalize Lib.itoa (N : Int) = ti at *
        generalize hL : s.data.toList = L at *
        clear hL
        by_cases z : 0 < s.size
        · have g0 := G0.out z
          have z1 : decide ((0 : Int) < (s.size : Int)) = true := decide_eq_true (by omega)
          by_cases q : ti = L
          · have q1 : (ti == L) = true := by simp [q]
            have EE := hide (And.intro E1.out.1 (QE.out.trans (show decide (ti = L) = true by simp [q])))
            clear q c3
            go_wp2_with fail
            refine (DC.out _).mono ?_
            rintro e w1 ⟨rfl, hb⟩
            go_wp2
            go_ret2
            exact IntPost.mk EE.out hb
          · have q1 : (ti == L) = false := by simp [q]
            have EE := hide (And.intro E1.out.1 (QE.out.trans (show decide (ti = L) = false by simp [q])))
            clear q c3
            go_wp2_with fail
            refine (DC.out _).mono ?_
            rintro e w1 ⟨rfl, hb⟩
            go_wp2
            go_ret2
            exact IntPost.mk EE.out hb
        · have z1 : decide ((0 : Int) < (s.size : Int)) = false := decide_eq_false (by omega)
          by_cases q : ti = L
          · have q1 : (ti == L) = true := by simp [q]
            have EE := hide (And.intro E1.out.1 (QE.out.trans (show decide (ti = L) = true by simp [q])))
            clear q c3
            go_wp2_with fail
            refine (DC.out _).mono ?_
            rintro e w1 ⟨rfl, hb⟩
            go_wp2
            go_ret2
            exact IntPost.mk EE.out hb
          · have q1 : (ti == L) = false := by simp [q]
            have EE := hide (And.intro E1.out.1 (QE.out.trans (show decide (ti = L) = false by simp [q])))
            clear q c3
            go_wp2_with fail
            refine (DC.out _).mono ?_
            rintro e w1 ⟨rfl, hb⟩
            go_wp2
            go_ret2
            exact IntPost.mk EE.out hb
      · have QE : Hid (rdV s.data.toList = (N : Int) ∧ rdB s.data.toList = false) := hide ⟨E1.out.1, by rw [E1.out.2, decide_eq_false c3, Bool.false_and]⟩
        have d3 : decide ((N : Int) ≤ 144115188075855872) = false := decide_eq_false (by omega)
        by_cases z : 0 < s.size
        · have g0 := G0.out z
          have z1 : decide ((0 : Int) < (s.size : Int)) = true := decide_eq_true (by omega)
          clear c3
          go_wp2
          go_ret2
          exact IntPost.mk QE.out (Below.refl _ _)
        · have z1 : decide ((0 : Int) < (s.size : Int)) = false := decide_eq_false (by omega)
          clear c3
          go_wp2
          go_ret2
          exact IntPost.mk QE.out (Below.refl _ _)
set_option maxRecDepth 100000 in
set_option maxHeartbeats 4000000 in
theorem rint_neg (s : ByteArray) (w : World) (hs : s.size ≤ 4294967280) (h0 : 0 < s.size) (hm : (s[0].toNat : Int) = 45) : Calls Tryd.prog 57 #[.string s] w (IntPost s.data.toList w) := by
  have hd := head_byte s h0
  have e45 : s[0] = 45 := UInt8.toNat_inj.1 (by have : (45 : UInt8).toNat = 45 := rfl; omega)
  rw [e45] at hd
  have eT : rdT s.data.toList = s.data.toList.drop 1 := by unfold rdT; rw [if_pos hd, List.drop_one]
  have FIN := hide (fun N (h : rdD 0 (s.data.toList.drop 1) = some N) => rd_neg hd (by rw [eT]; exact h))
  have NON := hide (fun (h : rdD 0 (s.data.toList.drop 1) = none) => rd_none (l := s.data.toList) (by rw [eT]; exact h))
  have g0 : ((s[0].toNat : Int) == 45) = true := by simp [hm]
  clear hd e45 eT hm
  go_enter Tryd.func57, Tryd.ntmps57
  go_wp2
  go_loop [4, 5] (fun v4 v5 => ∃ i N : Nat, i ≤ s.size ∧ v5 = .int .i64 i ∧ v4 = .int .i64 N ∧ (N : Int) ≤ 1441151880758558729 ∧ Hid (((i = 0 ∧ N = 0) ∨ (1 ≤ i ∧ rdD 0 (s.data.toList.drop 1) = rdD N (s.data.toList.drop i))))) (fun _ v5 => s.size - (intOf v5).toNat)
  case atStart => exact ⟨0, 0, Nat.zero_le _, rfl, rfl, by decide, hide (.inl ⟨rfl, rfl⟩)⟩
  case round =>
    obtain ⟨i, N, hi, rfl, rfl, hN, HI⟩ := hrel
    by_cases hlt : i < s.size
    · by_cases i0 : i = 0
      · subst i0
        rcases HI.out with ⟨_, hz⟩ | ⟨hz, _⟩
        · subst hz
          clear HI
          go_wp2
          go_round
          case rel => exact ⟨1, 0, by omega, by go_num, rfl, by decide, hide (.inr ⟨Nat.le_refl _, rfl⟩)⟩
          case measure => simp [intOf]; omega
        · omega
      have q0 : ((i : Int) == 0) = false := by simp [i0]
      have HJ : Hid (rdD 0 (s.data.toList.drop 1) = rdD N (s.data.toList.drop i)) := hide (by rcases HI.out with ⟨h, _⟩ | ⟨_, h⟩ <;> first | omega | exact h)
      clear HI i0
      have DB := hide (drop_byteD s i hlt)
      have hc := byteD s[i]
      generalize hci : (s[i].toNat : Int) = c at *
      by_cases c1 : c < 48
      · have E := hide (NON.out (by rw [HJ.out, DB.out]; exact rdD_stop (.inl (by omega))))
        have d1 : decide (c < 48) = true := decide_eq_true c1
        clear HJ DB
        go_wp2
        go_ret2
        exact IntPost.mk E.out (Below.refl _ _)
      have d1 : decide (c < 48) = false := decide_eq_false c1
      by_cases c2 : 57 < c
      · have E := hide (NON.out (by rw [HJ.out, DB.out]; exact rdD_stop (.inr (.inl (by omega)))))
        have d2 : decide (57 < c) = true := decide_eq_true c2
        clear HJ DB
        go_wp2
        go_ret2
        exact IntPost.mk E.out (Below.refl _ _)
      have d2 : decide (57 < c) = false := decide_eq_false c2
      by_cases c3 : 144115188075855872 < (N : Int)
      · have E := hide (NON.out (by rw [HJ.out, DB.out]; exact rdD_stop (.inr (.inr c3))))
        have d3 : decide (144115188075855872 < (N : Int)) = true := decide_eq_true c3
        clear HJ DB
        go_wp2
        go_ret2
        exact IntPost.mk E.out (Below.refl _ _)
      have d3 : decide (144115188075855872 < (N : Int)) = false := decide_eq_false c3
      obtain ⟨d, rfl⟩ : ∃ d : Nat, c = 48 + (d : Int) := ⟨(c - 48).toNat, by omega⟩
      have d9 : d ≤ 9 := by omega
      have HJ2 : Hid (rdD 0 (s.data.toList.drop 1) = rdD (N * 10 + d) (s.data.toList.drop (i + 1))) := hide (by rw [HJ.out, DB.out]; exact rdD_go hci d9 (by omega))
      have bN : ((N * 10 + d : Nat) : Int) ≤ 1441151880758558729 := by omega
      clear HJ DB c1 c2 c3 hc
      go_wp2
      go_round
      case rel => exact ⟨i + 1, N * 10 + d, by omega, by go_num, by go_num, bN, hide (.inr ⟨by omega, HJ2.out⟩)⟩
      case measure => simp [intOf]; omega
    · obtain rfl : i = s.size := by omega
      have hnil : s.data.toList.drop s.size = [] := List.drop_of_length_le (by simp)
      have E := FIN.out N (by rcases HI.out with ⟨h, _⟩ | ⟨_, h⟩ <;> first | omega | (rw [h, hnil]; rfl))
      have z1 : decide ((0 : Int) < (s.size : Int)) = true := decide_eq_true (by omega)
      clear HI FIN NON hnil
      have E1 := hide E
      clear E
      have DC := hide (fun W => rdec_any (-(N : Int)) W (by omega) (by omega))
      have TL := ByteArray.toList_eq s
      by_cases c3 : N ≤ 144115188075855872
      · have QE : Hid (rdB s.data.toList = decide (Lib.itoa (-(N : Int)) = s.data.toList)) := hide (by rw [E1.out.2, decide_eq_true c3, Bool.true_and])
        have d3 : decide (-(N : Int) ≤ 144115188075855872) = true := decide_eq_true (by omega)
        have d4 : decide (-144115188075855872 ≤ -(N : Int)) = true := decide_eq_true (by omega)
        have d5 : decide ((N : Int) ≤ 144115188075855872) = true := decide_eq_true (by omega)
        generalize Lib.itoa (-(N : Int)) = ti at *
        generalize hL : s.data.toList = L at *
        clear hL
        by_cases q : ti = L
        · have q1 : (ti == L) = true := by simp [q]
          have EE := hide (And.intro E1.out.1 (QE.out.trans (show decide (ti = L) = true by simp [q])))
          clear q c3
          go_wp2_with fail
          refine (DC.out _).mono ?_
          rintro e w1 ⟨rfl, hb⟩
          go_wp2
          go_ret2
          exact IntPost.mk EE.out hb
        · have q1 : (ti == L) = false := by simp [q]
          have EE := hide (And.intro E1.out.1 (QE.out.trans (show decide (ti = L) = false by simp [q])))
          clear q c3
          go_wp2_with fail
          refine (DC.out _).mono ?_
          rintro e w1 ⟨rfl, hb⟩
          go_wp2
          go_ret2
          exact IntPost.mk EE.out hb
      · have QE : Hid (rdV s.data.toList = (-(N : Int)) ∧ rdB s.data.toList = false) := hide ⟨E1.out.1, by rw [E1.out.2, decide_eq_false c3, Bool.false_and]⟩
        have d3 : decide (-(N : Int) ≤ 144115188075855872) = true := decide_eq_true (by omega)
        have d4 : decide (-144115188075855872 ≤ -(N : Int)) = false := decide_eq_false (by omega)
        have d5 : decide ((N : Int) ≤ 144115188075855872) = false := decide_eq_false (by omega)
        clear c3
        go_wp2
        go_ret2
        exact IntPost.mk QE.out (Below.refl _ _)
end Go.Proofs.YtgflgnbbkhikcaaDoor
