/- The reference's texts of spans: Decimal, Text, Int, Parse: what each returns; nothing that was there is turned. -/
import Derived.Test.YtgflgnbbkhikcaaDoorSpTxP
import Derived.Test.YtgflgnbbkhikcaaDoorSpRef
import Derived.Test.YtgflgnbbkhikcaaDoorOwnQ
namespace Go.Proofs.YtgflgnbbkhikcaaDoor
open Go Go.RowKit

def decK (k : Int) : List UInt8 := if k = 0 then [] else Lib.decDigits k.natAbs
theorem decK_step {k q : Int} {d : Nat} (hk : k ≠ 0) (hq : k.tdiv 10 = q) (hd : (k.tmod 10).natAbs = d) : decK k = decK q ++ [UInt8.ofNat (48 + d)] ∧ d < 10 := by
  have e1 : q.natAbs = k.natAbs / 10 := by rw [← hq, Int.natAbs_tdiv]; rfl
  have e2 : d = k.natAbs % 10 := by rw [← hd, Int.natAbs_tmod]; rfl
  refine ⟨?_, by omega⟩
  unfold decK
  rw [if_neg hk]
  by_cases h : k.natAbs < 10
  · rw [if_pos (by omega), dec_small h, e2, Nat.mod_eq_of_lt h]; rfl
  · rw [if_neg (by omega), dec_big h, e1, e2]
theorem byte_conv (d : Nat) (hd : d < 10) (W : World) : (convert 94 9 (.slice (some ⟨W.heap.size, 0, none⟩) 1 1)).run Tryd.prog (W.alloc (.cells #[.int .u8 (48 + (d : Int))] 5)) = .ok (strV [UInt8.ofNat (48 + d)]) (W.alloc (.cells #[.int .u8 (48 + (d : Int))] 5)) := by
  have h := run_convert_bytes_back (P := Tryd.prog) (W.alloc (.cells #[.int .u8 (48 + (d : Int))] 5)) 94 9 5 ⟨W.heap.size, 0, none⟩ 1 [UInt8.ofNat (48 + d)] Tryd.underlying94 Tryd.underlying5 Tryd.underlying9 (fun j hj => by
    obtain rfl : j = 0 := by simpa using hj
    have B := Blk.new W 5 #[.int .u8 (48 + (d : Int))]
    have c := B.cell 0
    show (W.alloc _).cell? ⟨W.heap.size, 0, none⟩ = _
    rw [c]
    show some (Value.int .u8 (48 + (d : Int))) = some (Value.int .u8 (((UInt8.ofNat (48 + d)).toNat : Nat) : Int))
    rw [dgN hd]
    rfl)
  exact h
set_option maxRecDepth 100000 in
set_option maxHeartbeats 2000000 in
theorem rdec_any (n : Int) (w : World) (h1 : -9223372036854775808 ≤ n) (h2 : n ≤ 9223372036854775807) : Calls Tryd.prog 59 #[.int .i64 n] w (RetV (strV (Lib.itoa n)) w) := by
  by_cases h0 : n = 0
  · subst h0
    go_enter Tryd.func59, Tryd.ntmps59
    go_wp2
    go_ret
    exact ⟨by rw [show Lib.itoa 0 = [48] by decide +kernel]; rfl, Below.refl _ _⟩
  have e0 : (n == 0) = false := by simpa using h0
  have LEN := Lib.itoa_length_le n h1 h2
  have LD : (Lib.decDigits n.natAbs).length ≤ 21 := by
    by_cases hn : n < 0
    · rw [itoa_neg hn, List.length_cons] at LEN; omega
    · rw [itoa_pos (by omega), show n.toNat = n.natAbs by omega] at LEN; omega
  have ST := hide (show Lib.decDigits n.natAbs = decK n ++ [] by unfold decK; rw [if_neg h0, List.append_nil])
  have FN := hide (fun (out : List UInt8) (h : Lib.decDigits n.natAbs = decK 0 ++ out) => (show Lib.itoa n = if n < 0 then 45 :: out else out by
    have e : out = Lib.decDigits n.natAbs := by rw [h]; rfl
    by_cases hn : n < 0
    · rw [if_pos hn, itoa_neg hn, e]
    · rw [if_neg hn, itoa_pos (by omega), e, show n.toNat = n.natAbs by omega]))
  clear LEN h0
  generalize hD : Lib.decDigits n.natAbs = D at *
  clear hD
  go_enter Tryd.func59, Tryd.ntmps59
  go_wp2
  go_loopw [3, 4] (fun v3 v4 wr => ∃ (out : List UInt8) (k : Int), v3 = strV out ∧ v4 = .int .i64 k ∧ -9223372036854775808 ≤ k ∧ k ≤ 9223372036854775807 ∧ Hid (Below w.heap.size w wr) ∧ Hid (D = decK k ++ out)) (fun _ v4 _ => (intOf v4).natAbs)
  case atStart => exact ⟨[], n, rfl, rfl, h1, h2, hide (Below.refl _ _), ST⟩
  case round =>
    obtain ⟨out, k, rfl, rfl, k1, k2, HB, HD⟩ := hrel
    by_cases hk : k = 0
    · subst hk
      have E := hide (FN.out out HD.out)
      have ol : out.length ≤ 21 := by have := congrArg List.length HD.out; rw [List.length_append] at this; omega
      have l1 : ¬ 9223372036854775807 < 1 + out.length := by omega
      have c1 : (⟨#[45]⟩ : ByteArray) ++ ⟨out.toArray⟩ = ⟨(45 :: out).toArray⟩ := ba_append [45] out
      clear HD ol
      by_cases hn : n < 0
      · have hnd : decide (n < 0) = true := decide_eq_true hn
        go_wp2
        go_ret
        exact ⟨by rw [E.out, if_pos hn]; rfl, HB.out⟩
      · have hnd : decide (n < 0) = false := decide_eq_false hn
        go_wp2
        go_ret
        exact ⟨by rw [E.out, if_neg (by omega)]; rfl, HB.out⟩
    · have z0 : (k == 0) = false := by simpa using hk
      obtain ⟨q, hq⟩ : ∃ q, k.tdiv 10 = q := ⟨_, rfl⟩
      obtain ⟨r, hr⟩ : ∃ r, k.tmod 10 = r := ⟨_, rfl⟩
      have ol : out.length ≤ 21 := by have := congrArg List.length HD.out; rw [List.length_append] at this; omega
      have qb : -9223372036854775808 ≤ q ∧ q ≤ 9223372036854775807 ∧ q.natAbs < k.natAbs := by
        have : q.natAbs = k.natAbs / 10 := by rw [← hq, Int.natAbs_tdiv]; rfl
        omega
      obtain ⟨e1, e2⟩ := decK_step hk hq (d := r.natAbs) (by rw [hr])
      have HD2 : Hid (D = decK q ++ (UInt8.ofNat (48 + r.natAbs) :: out)) := hide (by rw [HD.out, e1]; simp)
      have l1 : ¬ 9223372036854775807 < 1 + out.length := by omega
      have HB2 := hide (fun o => HB.out.alloc HB.out.size o)
      clear HD e1 hk ol
      by_cases rn : r < 0
      · obtain ⟨d, rfl⟩ : ∃ d : Nat, r = -(d : Int) := ⟨r.natAbs, by omega⟩
        rw [Int.natAbs_neg, Int.natAbs_natCast] at HD2 e2
        have dr : decide (-(d : Int) < 0) = true := decide_eq_true rn
        have d0 : 0 < d := by omega
        have d00 : decide (0 < d) = true := decide_eq_true d0
        have CV := byte_conv d e2 wr
        generalize UInt8.ofNat (48 + d) = B at *
        have c1 : (⟨#[B]⟩ : ByteArray) ++ ⟨out.toArray⟩ = ⟨(B :: out).toArray⟩ := ba_append [B] out
        clear rn
        go_wp2
        go_roundw
        case rel => exact ⟨B :: out, q, rfl, rfl, qb.1, qb.2.1, hide (HB2.out _), HD2⟩
        case measure => simp [intOf]; omega
      · obtain ⟨d, rfl⟩ : ∃ d : Nat, r = (d : Int) := ⟨r.natAbs, by omega⟩
        rw [Int.natAbs_natCast] at HD2 e2
        have dr : decide ((d : Int) < 0) = false := decide_eq_false rn
        have CV := byte_conv d e2 wr
        generalize UInt8.ofNat (48 + d) = B at *
        have c1 : (⟨#[B]⟩ : ByteArray) ++ ⟨out.toArray⟩ = ⟨(B :: out).toArray⟩ := ba_append [B] out
        clear rn
        go_wp2
        go_roundw
        case rel => exact ⟨B :: out, q, rfl, rfl, qb.1, qb.2.1, hide (HB2.out _), HD2⟩
        case measure => simp [intOf]; omega
end Go.Proofs.YtgflgnbbkhikcaaDoor
