/- The program's Text of a list of classes: the text that is specified; nothing that was there is turned. -/
import Derived.Test.YtaaadejamjbcbaaDoorBld
import Derived.Test.YtaaadejamjbcbaaDoorPrsP
import Derived.Test.YtaaadejamjbcbaaDoorCls
import Derived.Test.YtaaadejamjbcbaaDoorOwn3
namespace Go.Proofs.YtaaadejamjbcbaaDoor
open Go Go.RowKit

def nmbs (c : Cls) : List Int := [c.se, c.we, c.ro, c.dr]
/-- the first numbers of a class, each behind a space -/
def txN (c : Cls) (j : Nat) : List UInt8 := ((nmbs c).take j).flatMap fun n => 32 :: Lib.itoa n
theorem txN_four (c : Cls) : c.nm.data.toList ++ txN c 4 = txC c := by simp [txN, nmbs, txC]
theorem txN_step (c : Cls) {j : Nat} (h : j < 4) : txN c (j + 1) = txN c j ++ 32 :: Lib.itoa ((nmbs c).getD j 0) := by
  match j, h with
  | 0, _ => simp [txN, nmbs]
  | 1, _ => simp [txN, nmbs]
  | 2, _ => simp [txN, nmbs]
  | 3, _ => simp [txN, nmbs]
theorem nm_bd {c : Cls} (h : rightB c = true) (j : Nat) : 0 ≤ (nmbs c).getD j 0 ∧ (nmbs c).getD j 0 ≤ 1000000 := by
  obtain ⟨_, h1, h2, h3, h4, h5, h6, h7, h8⟩ := of_rightB h
  match j with
  | 0 => simp [nmbs]; omega
  | 1 => simp [nmbs]; omega
  | 2 => simp [nmbs]; omega
  | 3 => simp [nmbs]; omega
  | j + 4 => simp [nmbs]
theorem itoa_len {n : Int} (h : 0 ≤ n ∧ n ≤ 1000000) : (Lib.itoa n).length ≤ 21 := Lib.itoa_length_le n (by omega) (by omega)
theorem txN_len {c : Cls} (h : rightB c = true) : ∀ j, j ≤ 4 → (txN c j).length ≤ 22 * j
  | 0, _ => by simp [txN]
  | j + 1, hj => by
    have ih := txN_len h j (by omega)
    rw [txN_step c (by omega)]
    have := itoa_len (nm_bd h j)
    rw [List.length_append, List.length_cons]; omega
theorem name_len {l : List UInt8} (h : nameB l = true) : l.length ≤ 20 := by
  cases l with
  | nil => simp
  | cons x r =>
    simp only [nameB, Bool.and_eq_true, decide_eq_true_eq] at h
    have := h.1.1
    rw [List.length_cons]; exact this
theorem txC_len {c : Cls} (h : rightB c = true) : (txC c).length ≤ 108 := by
  rw [← txN_four, List.length_append]
  have h1 := txN_len h 4 (by omega)
  have h2 := name_len (of_rightB h).1
  omega
theorem txL_len : ∀ {l : List Cls}, (∀ c ∈ l, rightB c = true) → (txL l).length ≤ 110 * l.length
  | [], _ => by simp [txL]
  | c :: r, h => by
    have ih := txL_len (l := r) (fun x hx => h x (List.mem_cons_of_mem _ hx))
    have := txC_len (h c (List.mem_cons_self ..))
    simp [txL]; omega
theorem txL_take {l : List Cls} {k : Nat} (h : k < l.length) : txL (l.take (k + 1)) = txL (l.take k) ++ (txC l[k] ++ [10]) := by
  rw [List.take_succ_eq_append_getElem h, txL_append]
  simp [txL]
def txR (l : List Cls) : List UInt8 := if validB l = true then txL l else []
def txE (l : List Cls) : Int := if validB l = true then 0 else 1
theorem tx_good {l : List Cls} (h : validB l = true) : txR l = txL l ∧ txE l = 0 := by simp [txR, txE, h]
theorem tx_bad {l : List Cls} (h : validB l = false) : txR l = [] ∧ txE l = 1 := by simp [txR, txE, h]
def TxPost (l : List Cls) (w : World) (e : Ending) (w' : World) : Prop := e = .returned (.tuple #[strV (txR l), .int .i64 (txE l)]) ∧ Below w.heap.size w w'
set_option maxRecDepth 100000 in
set_option maxHeartbeats 4000000 in
theorem lutext_any (l : List Cls) (A : Option Addr) (cap : Nat) (w : World) (hl : ClsSl w A l) (ht : TxtW w) :
    Calls Tryd.prog 21 #[.slice A l.length cap] w (TxPost l w) := by
  have hlen : l.length ≤ 9223372036854775807 := hl.1.1
  have H := hide hl
  have HT := hide ht
  have V := hide (fun W h => luvalid_any l A cap W h)
  clear hl ht
  rcases Bool.eq_false_or_eq_true (validB l) with hv | hv
  case inr =>
    have E := hide (tx_bad hv)
    rw [hv] at V
    clear hv
    go_enter Tryd.func21, Tryd.ntmps21
    go_wp2_with fail
    refine (V.out _ H.out).mono ?_
    rintro e w1 ⟨rfl, hb⟩
    go_wp2
    go_ret2
    exact ⟨by rw [E.out.1, E.out.2]; rfl, hb⟩
  have E := hide (tx_good hv)
  have RG := hide (valid_right hv)
  have L16 : l.length ≤ 16 := (of_validB hv).2.1
  rw [hv] at V
  clear hv
  go_enter Tryd.func21, Tryd.ntmps21
  go_wp2_with fail
  refine (V.out _ H.out).mono ?_
  rintro e w1 ⟨rfl, hb⟩
  have B0 := hide (BldW.start hb)
  go_wp2
  go_loopw [14] (fun v14 wr => ∃ k : Nat, k ≤ l.length ∧ v14 = .int .i64 k ∧ Hid (BldW w wr w1.heap.size (txL (l.take k)))) (fun v14 _ => l.length - (intOf v14).toNat)
  case atStart => exact ⟨0, Nat.zero_le _, rfl, B0⟩
  case round =>
    obtain ⟨k, hk, rfl, HB⟩ := hrel
    by_cases hlt : k < l.length
    · obtain ⟨wo, rfl⟩ : ∃ wo : World, wo = wr := ⟨_, rfl⟩
      have HS := hide (H.out.below HB.out.2)
      obtain ⟨b, off, rfl, hbl, hat⟩ := HS.out.2 (by omega)
      obtain ⟨c0, c1, c2, c3, c4⟩ := hat k hlt
      have rc := RG.out l[k] (List.getElem_mem hlt)
      have la : (txL (l.take k)).length ≤ 110 * k := by
        have := txL_len (l := l.take k) (fun c h => RG.out c (List.mem_of_mem_take h))
        rw [List.length_take] at this
        omega
      have FIN := hide (txL_take hlt)
      have ln := name_len (of_rightB rc).1
      have NB := hide (fun j => nm_bd rc j)
      have NL := hide (fun j hj => txN_len rc j hj)
      have NS := hide (fun j hj => txN_step l[k] (j := j) hj)
      have N4 := hide (txN_four l[k])
      clear hat rc
      generalize l[k] = c at *
      generalize hacc : txL (l.take k) = acc at *
      clear hacc
      have X := (show Own w wo [] from ⟨HB.out.2, fun _ h => by cases h⟩).alloc #[.string c.nm, .int .i64 c.se, .int .i64 c.we, .int .i64 c.ro, .int .i64 c.dr] 54
      have hb1 := HB.out.lt
      have HB1 := hide (HB.out.alloc (.cells #[.string c.nm, .int .i64 c.se, .int .i64 c.we, .int .i64 c.ro, .int .i64 c.dr] 54))
      have WS := hide (fun W h => bws_any w W w1.heap.size acc c.nm.data.toList h (by omega))
      rw [strV_data] at WS
      go_wp2_with fail
      refine (WS.out _ HB1.out).mono ?_
      rintro e w3 ⟨rfl, hB, hb3, hk3⟩
      replace X := hide (X.others hb3 hk3 (fun x hx => by
        simp only [List.mem_cons, List.not_mem_nil, or_false] at hx
        subst hx
        exact ⟨by show wo.heap.size ≠ w1.heap.size; omega, (show 54 ≠ 5 by decide)⟩))
      clear HB1 hb3 hk3
      have hr := X.out.r1
      have HB3 := hide (hB.alloc (.cells #[.int .i64 c.se, .int .i64 c.we, .int .i64 c.ro, .int .i64 c.dr] 3))
      have Y := hide ((show Own w w3 [] from ⟨hB.2, fun _ h => by cases h⟩).alloc #[.int .i64 c.se, .int .i64 c.we, .int .i64 c.ro, .int .i64 c.dr] 3)
      have Z0 : Hid (BldW w (w3.alloc (.cells #[.int .i64 c.se, .int .i64 c.we, .int .i64 c.ro, .int .i64 c.dr] 3)) w1.heap.size (acc ++ c.nm.data.toList ++ txN c 0)) := hide (by rw [show txN c 0 = [] from rfl, List.append_nil]; exact HB3.out)
      have b13 := hB.lt
      clear hB HB3 HB
      go_wp2
      go_loopw [31] (fun v31 wr => ∃ j : Nat, j ≤ 4 ∧ v31 = .int .i64 j ∧ Hid (BldW w wr w1.heap.size (acc ++ c.nm.data.toList ++ txN c j)) ∧ Hid (Own w wr [(w3.heap.size, 3, #[.int .i64 c.se, .int .i64 c.we, .int .i64 c.ro, .int .i64 c.dr])])) (fun v31 _ => 4 - (intOf v31).toNat)
      case atStart => exact ⟨0, by omega, rfl, Z0, Y⟩
      case round =>
        obtain ⟨j, hj, rfl, HZ, HY⟩ := hrel
        have xl : (acc ++ c.nm.data.toList).length ≤ 110 * k + 20 := by rw [List.length_append]; omega
        by_cases hj4 : j < 4
        · have cell : wr.cell? ⟨w3.heap.size, 0 + j, none⟩ = some (.int .i64 ((nmbs c).getD j 0)) := by
            rw [HY.out.r1.1]
            match j, hj4 with
            | 0, _ => rfl
            | 1, _ => rfl
            | 2, _ => rfl
            | 3, _ => rfl
          rw [Nat.zero_add] at cell
          have nb := NB.out j
          have nl := NL.out j (by omega)
          have ns := hide (NS.out j hj4)
          have il := itoa_len nb
          generalize (nmbs c).getD j 0 = n at *
          have IT := hide (fun W h => itoaL n W (by omega) (by omega) h)
          have ht2 := hide (HT.out.below HY.out.1)
          have xl2 : (acc ++ c.nm.data.toList ++ txN c j).length ≤ 110 * k + 20 + 88 := by rw [List.length_append]; omega
          have WS2 := hide (fun W h => bws_any w W w1.heap.size (acc ++ c.nm.data.toList ++ txN c j) (32 :: Lib.itoa n) h (by simp only [List.length_cons]; omega))
          have NX : Hid (acc ++ c.nm.data.toList ++ txN c j ++ (32 :: Lib.itoa n) = acc ++ c.nm.data.toList ++ txN c (j + 1)) := hide (by rw [ns.out, List.append_assoc])
          clear ns
          generalize Lib.itoa n = it at *
          have cc : (⟨#[32]⟩ : ByteArray) ++ ⟨it.toArray⟩ = ⟨(32 :: it).toArray⟩ := ba_append [32] it
          have l1 : ¬ 9223372036854775807 < 1 + it.length := by omega
          clear WS c0 c1 c2 c3 c4 hr
          go_wp2_with fail
          refine (IT.out _ ht2.out).mono ?_
          rintro e w4 ⟨rfl, hb4⟩
          have HZ4 := hide (HZ.out.to hb4)
          have HY4 := hide (HY.out.to hb4)
          clear hb4 cell
          go_wp2_with fail
          refine (WS2.out _ HZ4.out).mono ?_
          rintro e w5 ⟨rfl, hB, hb5, hk5⟩
          have HY5 := hide (HY4.out.others hb5 hk5 (fun x hx => by
            simp only [List.mem_cons, List.not_mem_nil, or_false] at hx
            subst hx
            exact ⟨by show w3.heap.size ≠ w1.heap.size; omega, (show 3 ≠ 5 by decide)⟩))
          have HB5 := hide hB
          clear hB hb5 hk5
          go_wp2
          go_roundw
          case rel => exact ⟨j + 1, by omega, by go_num, hide (by rw [← NX.out]; exact HB5.out), HY5⟩
          case measure => simp [intOf]; omega
        · obtain rfl : j = 4 := by omega
          have nl := NL.out 4 (by omega)
          have xl2 : (acc ++ c.nm.data.toList ++ txN c 4).length ≤ 110 * k + 20 + 88 := by rw [List.length_append]; omega
          have WB := hide (fun W h => bwb_any w W w1.heap.size (acc ++ c.nm.data.toList ++ txN c 4) 10 h (by omega))
          have e10 : (((10 : UInt8).toNat : Nat) : Int) = 10 := rfl
          rw [e10] at WB
          have FN2 : Hid (acc ++ c.nm.data.toList ++ txN c 4 ++ [10] = txL (l.take (k + 1))) := hide (by rw [FIN.out, List.append_assoc acc, N4.out, List.append_assoc])
          clear WS c0 c1 c2 c3 c4 hr e10
          go_wp2_with fail
          refine (WB.out _ HZ.out).mono ?_
          rintro e w4 ⟨rfl, hB, hb4, hk4⟩
          have HB5 := hide hB
          clear hB hb4 hk4
          go_wp2
          go_roundw
          case rel => exact ⟨k + 1, by omega, by go_num, hide (by rw [← FN2.out]; exact HB5.out)⟩
          case measure => simp [intOf]; omega
    · obtain rfl : k = l.length := by omega
      have ST := hide (fun W h => bst_any w W w1.heap.size (txL (l.take l.length)) h)
      go_wp2_with fail
      refine (ST.out _ HB.out).mono ?_
      rintro e w3 ⟨rfl, hB, hb3, hk3⟩
      go_wp2
      go_ret2
      exact ⟨by rw [E.out.1, E.out.2]; rfl, hB.2⟩
end Go.Proofs.YtaaadejamjbcbaaDoor
