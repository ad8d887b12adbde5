/- The reference's digits and Format (sewershedref01) without a point: the decimal text of an integer from 0 on; nothing that was there is turned. -/
import Derived.Test.YtaaadejamjbcbaaDoorTxW0
namespace Go.Proofs.YtaaadejamjbcbaaDoor
open Go Go.RowKit

def decN (k : Nat) : List UInt8 := if k = 0 then [] else Lib.decDigits k
/-- digits, at least some -/
def padN (least k : Nat) : List UInt8 := List.replicate (least - (decN k).length) 48 ++ decN k
theorem decN_step {k : Nat} (hk : k ≠ 0) : decN k = decN (k / 10) ++ [UInt8.ofNat (48 + k % 10)] := by
  unfold decN
  rw [if_neg hk]
  by_cases h : k < 10
  · rw [if_pos (by omega), dec_small h, Nat.mod_eq_of_lt h]; rfl
  · rw [if_neg (by omega), dec_big h]
theorem padN_step {least k : Nat} (h : 0 < k ∨ 0 < least) : padN least k = padN (least - 1) (k / 10) ++ [UInt8.ofNat (48 + k % 10)] := by
  unfold padN
  by_cases hk : k = 0
  · subst hk
    have hl : 0 < least := by omega
    obtain ⟨m, rfl⟩ : ∃ m, least = m + 1 := ⟨least - 1, by omega⟩
    show List.replicate (m + 1) (48 : UInt8) ++ [] = (List.replicate m 48 ++ []) ++ [48]
    rw [List.append_nil, List.append_nil, List.replicate_succ']
  · rw [decN_step hk, List.length_append, List.length_singleton, ← List.append_assoc]
    congr 3
    omega
theorem padN_end : padN 0 0 = [] := by simp [padN, decN]
theorem padN_one (k : Nat) : padN 1 k = Lib.decDigits k := by
  unfold padN decN
  by_cases h : k = 0
  · subst h; rw [if_pos rfl, dec_small (by decide)]; rfl
  · rw [if_neg h]
    have := List.length_pos_iff.2 (dec_ne k)
    rw [show 1 - (Lib.decDigits k).length = 0 by omega]; rfl
theorem padN_len (least k : Nat) : (padN least k).length = max least (decN k).length := by
  unfold padN; simp; omega
theorem byte_convF (d : Nat) (hd : d < 10) (W : World) : (convert 63 9 (.slice (some ⟨W.heap.size, 0, none⟩) 1 1)).run Tryd.prog (W.alloc (.cells #[.int .u8 (48 + (d : Int))] 5)) = .ok (strV [UInt8.ofNat (48 + d)]) (W.alloc (.cells #[.int .u8 (48 + (d : Int))] 5)) := by
  have h := run_convert_bytes_back (P := Tryd.prog) (W.alloc (.cells #[.int .u8 (48 + (d : Int))] 5)) 63 9 5 ⟨W.heap.size, 0, none⟩ 1 [UInt8.ofNat (48 + d)] Tryd.underlying63 Tryd.underlying5 Tryd.underlying9 (fun j hj => by
    obtain rfl : j = 0 := by simpa using hj
    have B := Blk.new W 5 #[.int .u8 (48 + (d : Int))]
    have c := B.cell 0
    show (W.alloc _).cell? ⟨W.heap.size, 0, none⟩ = _
    rw [c]
    show some (Value.int .u8 (48 + (d : Int))) = some (Value.int .u8 (((UInt8.ofNat (48 + d)).toNat : Nat) : Int))
    rw [dgN hd]
    rfl)
  exact h
theorem dec_len21 {n : Nat} (h : n ≤ 9223372036854775807) : (Lib.decDigits n).length ≤ 21 := by
  have := Lib.itoa_length_le (n : Int) (by omega) (by omega)
  rw [itoa_nat] at this
  exact this
set_option maxRecDepth 100000 in
set_option maxHeartbeats 2000000 in
theorem rdig_any (n least : Nat) (w : World) (h2 : n ≤ 9223372036854775807) (h3 : least ≤ 100) : Calls Tryd.prog 55 #[.int .i64 n, .int .i64 least] w (RetV (strV (padN least n)) w) := by
  have LD : (padN least n).length ≤ 200 := by
    rw [padN_len]
    have : (decN n).length ≤ 21 := by
      unfold decN; split
      · simp
      · exact dec_len21 h2
    omega
  have ST : Hid (padN least n = padN (least - ([] : List UInt8).length) n ++ []) := hide (by rw [List.append_nil]; rfl)
  have LD := LD
  generalize hD : padN least n = D at LD ⊢
  have ST2 : Hid (D = padN (least - ([] : List UInt8).length) n ++ []) := hide (hD.symm.trans ST.out)
  clear hD ST
  go_enter Tryd.func55, Tryd.ntmps55
  go_wp2
  go_loopw [0, 5] (fun v0 v5 wr => ∃ (out : List UInt8) (k : Nat), v5 = strV out ∧ v0 = .int .i64 k ∧ k ≤ 9223372036854775807 ∧ Hid (Below w.heap.size w wr) ∧ Hid (D = padN (least - out.length) k ++ out)) (fun v0 v5 _ => (intOf v0).toNat + (least - match v5 with | .string s => s.size | _ => 0))
  case atStart => exact ⟨[], n, rfl, rfl, h2, hide (Below.refl _ _), ST2⟩
  case round =>
    obtain ⟨out, k, rfl, rfl, k2, HB, HD⟩ := hrel
    have ol : out.length ≤ 200 := by have := congrArg List.length HD.out; rw [List.length_append] at this; omega
    have os : (⟨out.toArray⟩ : ByteArray).size = out.length := by simp [ByteArray.size]
    by_cases hk : 0 < k ∨ 0 < least - out.length
    · have ST2 := padN_step hk
      have dd : k % 10 < 10 := Nat.mod_lt _ (by decide)
      have CV := byte_convF (k % 10) dd wr
      have HD2 : Hid (D = padN (least - (out.length + 1)) (k / 10) ++ (UInt8.ofNat (48 + k % 10) :: out)) := hide (by rw [HD.out, ST2, List.append_assoc]; rfl)
      have HB2 := hide (fun o => HB.out.alloc HB.out.size o)
      have e1 : (k : Int).tmod 10 = ((k % 10 : Nat) : Int) := rfl
      have e2 : (k : Int).tdiv 10 = ((k / 10 : Nat) : Int) := rfl
      have q2 : k / 10 ≤ k := Nat.div_le_self _ _
      have q3 : 0 < k → k / 10 < k := fun h => Nat.div_lt_self h (by decide)
      have l1 : ¬ 9223372036854775807 < 1 + out.length := by omega
      clear HD ST2
      generalize k % 10 = d at *
      generalize k / 10 = q at *
      generalize UInt8.ofNat (48 + d) = B at *
      have os2 : (⟨(B :: out).toArray⟩ : ByteArray).size = out.length + 1 := by simp [ByteArray.size]
      have c1 : (⟨#[B]⟩ : ByteArray) ++ ⟨out.toArray⟩ = ⟨(B :: out).toArray⟩ := ba_append [B] out
      by_cases hk1 : 0 < k
      · have d1 : decide ((0 : Int) < (k : Int)) = true := decide_eq_true (by omega)
        have l2 : q < k := q3 hk1
        clear q3
        go_wp2
        go_roundw
        case rel => exact ⟨B :: out, q, rfl, rfl, by omega, hide (HB2.out _), by simpa using HD2⟩
        case measure => simp [intOf]; omega
      · have d1 : decide ((0 : Int) < (k : Int)) = false := decide_eq_false (by omega)
        have d2 : decide (out.length < least) = true := decide_eq_true (by omega)
        clear q3
        go_wp2
        go_roundw
        case rel => exact ⟨B :: out, q, rfl, rfl, by omega, hide (HB2.out _), by simpa using HD2⟩
        case measure => simp [intOf]; omega
    · have k0 : k = 0 := by omega
      subst k0
      have d1 : decide ((0 : Int) < ((0 : Nat) : Int)) = false := by decide
      have d2 : decide (out.length < least) = false := decide_eq_false (by omega)
      have E : Hid (D = out) := hide (by rw [HD.out, show least - out.length = 0 by omega, padN_end]; rfl)
      go_wp2
      go_ret
      exact ⟨by rw [E.out]; rfl, HB.out⟩
set_option maxRecDepth 100000 in
set_option maxHeartbeats 1000000 in
theorem rfmt_any (n : Nat) (w : World) (h2 : n ≤ 9223372036854775807) : Calls Tryd.prog 40 #[.int .i64 n, .int .i64 0] w (RetV (strV (Lib.itoa n)) w) := by
  have R := hide (rdig_any n 1 w h2 (by decide))
  have LD := dec_len21 h2
  have d1 : decide ((n : Int) < 0) = false := decide_eq_false (by omega)
  rw [padN_one] at R
  rw [itoa_nat]
  generalize Lib.decDigits n = D at *
  have c1 : (⟨#[]⟩ : ByteArray) ++ ⟨D.toArray⟩ = ⟨D.toArray⟩ := ba_append [] D
  have l1 : ¬ 9223372036854775807 < 0 + D.length := by omega
  have l2 : ¬ 9223372036854775807 < D.length := by omega
  go_enter Tryd.func40, Tryd.ntmps40
  go_wp2_with fail
  refine R.out.mono ?_
  rintro e w' ⟨rfl, hb⟩
  go_wp2
  go_ret
  exact ⟨rfl, hb⟩
end Go.Proofs.YtaaadejamjbcbaaDoor
