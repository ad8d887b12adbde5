/- Parts of one proof, joined: The reference's texts of instants, and of integers from 0 on; nothing that was there is turned. (Printed by gen_rck.py.). The reference's Text of a record of rain; nothing that was there is turned. (Printed by gen_ggrx.py.). The law GaugeTexts returns true for every record and every text; nothing that was there is turned. (Printed by gen_ggtt.py.). -/
import Derived.Test.YtkjndkeboeieoaaGreatDoorPkGaugeTexts1
import Derived.Test.YtkjndkeboeieoaaGreatDoorPkGaugeBack1
import Derived.Test.YtkjndkeboeieoaaGreatDoorPkGaugeBack3
import Derived.Test.YtkjndkeboeieoaaGreatDoorPkGaugeBack13
import Derived.Test.YtkjndkeboeieoaaGreatDoorPkGaugeTexts3
namespace Go.Proofs.YtkjndkeboeieoaaGreatDoor
open Go Go.RowKit

def decN (k : Nat) : List UInt8 := if k = 0 then [] else Lib.decDigits k
/-- digits, at least some -/
def padN (least k : Nat) : List UInt8 := List.replicate (least - (decN k).length) 48 ++ decN k
theorem decN_step {k : Nat} (hk : k ≠ 0) : decN k = decN (k / 10) ++ [UInt8.ofNat (48 + k % 10)] := by
  unfold decN
  rw [if_neg hk]
  by_cases h : k < 10
  · rw [if_pos (by omega), dec_small h, Nat.mod_eq_of_lt h]; rfl
  · rw [if_neg (by omega), dec_big h]
theorem padN_step {least k : Nat} (h : 0 < k ∨ 0 < least) : padN least k = padN (least - 1) (k / 10) ++ [UInt8.ofNat (48 + k % 10)] := by
  unfold padN
  by_cases hk : k = 0
  · subst hk
    have hl : 0 < least := by omega
    obtain ⟨m, rfl⟩ : ∃ m, least = m + 1 := ⟨least - 1, by omega⟩
    show List.replicate (m + 1) (48 : UInt8) ++ [] = (List.replicate m 48 ++ []) ++ [48]
    rw [List.append_nil, List.append_nil, List.replicate_succ']
  · rw [decN_step hk, List.length_append, List.length_singleton, ← List.append_assoc]
    congr 3
    omega
theorem padN_end : padN 0 0 = [] := by simp [padN, decN]
theorem padN_one (k : Nat) : padN 1 k = Lib.decDigits k := by
  unfold padN decN
  by_cases h : k = 0
  · subst h; rw [if_pos rfl, dec_small (by decide)]; rfl
  · rw [if_neg h]
    have := List.length_pos_iff.2 (dec_ne k)
    rw [show 1 - (Lib.decDigits k).length = 0 by omega]; rfl
theorem padN_len (least k : Nat) : (padN least k).length = max least (decN k).length := by
  unfold padN; simp; omega
theorem byte_convF (d : Nat) (hd : d < 10) (W : World) : (convert 57 9 (.slice (some ⟨W.heap.size, 0, none⟩) 1 1)).run Tryz.prog (W.alloc (.cells #[.int .u8 (48 + (d : Int))] 5)) = .ok (strV [UInt8.ofNat (48 + d)]) (W.alloc (.cells #[.int .u8 (48 + (d : Int))] 5)) := by
  have h := run_convert_bytes_back (P := Tryz.prog) (W.alloc (.cells #[.int .u8 (48 + (d : Int))] 5)) 57 9 5 ⟨W.heap.size, 0, none⟩ 1 [UInt8.ofNat (48 + d)] Tryz.underlying57 Tryz.underlying5 Tryz.underlying9 (fun j hj => by
    obtain rfl : j = 0 := by simpa using hj
    have B := Blk.new W 5 #[.int .u8 (48 + (d : Int))]
    have c := B.cell 0
    show (W.alloc _).cell? ⟨W.heap.size, 0, none⟩ = _
    rw [c]
    show some (Value.int .u8 (48 + (d : Int))) = some (Value.int .u8 (((UInt8.ofNat (48 + d)).toNat : Nat) : Int))
    rw [dgN hd]
    rfl)
  exact h
theorem dec_len21 {n : Nat} (h : n ≤ 9223372036854775807) : (Lib.decDigits n).length ≤ 21 := by
  have := Lib.itoa_length_le (n : Int) (by omega) (by omega)
  rw [itoa_nat] at this
  exact this
set_option maxRecDepth 100000 in
set_option maxHeartbeats 2000000 in
theorem rdig5_any (n least : Nat) (w : World) (h2 : n ≤ 9223372036854775807) (h3 : least ≤ 100) : Calls Tryz.prog 56 #[.int .i64 n, .int .i64 least] w (RetV (strV (padN least n)) w) := by
  have LD : (padN least n).length ≤ 200 := by
    rw [padN_len]
    have : (decN n).length ≤ 21 := by
      unfold decN; split
      · simp
      · exact dec_len21 h2
    omega
  have ST : Hid (padN least n = padN (least - ([] : List UInt8).length) n ++ []) := hide (by rw [List.append_nil]; rfl)
  have LD := LD
  generalize hD : padN least n = D at LD ⊢
  have ST2 : Hid (D = padN (least - ([] : List UInt8).length) n ++ []) := hide (hD.symm.trans ST.out)
  clear hD ST
  go_enter Tryz.func56, Tryz.ntmps56
  go_wp2
  go_loopw [0, 5] (fun v0 v5 wr => ∃ (out : List UInt8) (k : Nat), v5 = strV out ∧ v0 = .int .i64 k ∧ k ≤ 9223372036854775807 ∧ Hid (Below w.heap.size w wr) ∧ Hid (D = padN (least - out.length) k ++ out)) (fun v0 v5 _ => (intOf v0).toNat + (least - match v5 with | .string s => s.size | _ => 0))
  case atStart => exact ⟨[], n, rfl, rfl, h2, hide (Below.refl _ _), ST2⟩
  case round =>
    obtain ⟨out, k, rfl, rfl, k2, HB, HD⟩ := hrel
    have ol : out.length ≤ 200 := by have := congrArg List.length HD.out; rw [List.length_append] at this; omega
    have os : (⟨out.toArray⟩ : ByteArray).size = out.length := by simp [ByteArray.size]
    by_cases hk : 0 < k ∨ 0 < least - out.length
    · have ST2 := padN_step hk
      have dd : k % 10 < 10 := Nat.mod_lt _ (by decide)
      have CV := byte_convF (k % 10) dd wr
      have HD2 : Hid (D = padN (least - (out.length + 1)) (k / 10) ++ (UInt8.ofNat (48 + k % 10) :: out)) := hide (by rw [HD.out, ST2, List.append_assoc]; rfl)
      have HB2 := hide (fun o => HB.out.alloc HB.out.size o)
      have e1 : (k : Int).tmod 10 = ((k % 10 : Nat) : Int) := rfl
      have e2 : (k : Int).tdiv 10 = ((k / 10 : Nat) : Int) := rfl
      have q2 : k / 10 ≤ k := Nat.div_le_self _ _
      have q3 : 0 < k → k / 10 < k := fun h => Nat.div_lt_self h (by decide)
      have l1 : ¬ 9223372036854775807 < 1 + out.length := by omega
      clear HD ST2
      generalize k % 10 = d at *
      generalize k / 10 = q at *
      generalize UInt8.ofNat (48 + d) = B at *
      have os2 : (⟨(B :: out).toArray⟩ : ByteArray).size = out.length + 1 := by simp [ByteArray.size]
      have c1 : (⟨#[B]⟩ : ByteArray) ++ ⟨out.toArray⟩ = ⟨(B :: out).toArray⟩ := ba_append [B] out
      by_cases hk1 : 0 < k
      · have d1 : decide ((0 : Int) < (k : Int)) = true := decide_eq_true (by omega)
        have l2 : q < k := q3 hk1
        clear q3
        go_wp2
        go_roundw
        case rel => exact ⟨B :: out, q, rfl, rfl, by omega, hide (HB2.out _), by simpa using HD2⟩
        case measure => simp [intOf]; omega
      · have d1 : decide ((0 : Int) < (k : Int)) = false := decide_eq_false (by omega)
        have d2 : decide (out.length < least) = true := decide_eq_true (by omega)
        clear q3
        go_wp2
        go_roundw
        case rel => exact ⟨B :: out, q, rfl, rfl, by omega, hide (HB2.out _), by simpa using HD2⟩
        case measure => simp [intOf]; omega
    · have k0 : k = 0 := by omega
      subst k0
      have d1 : decide ((0 : Int) < ((0 : Nat) : Int)) = false := by decide
      have d2 : decide (out.length < least) = false := decide_eq_false (by omega)
      have E : Hid (D = out) := hide (by rw [HD.out, show least - out.length = 0 by omega, padN_end]; rfl)
      go_wp2
      go_ret
      exact ⟨by rw [E.out]; rfl, HB.out⟩
theorem pad_2 {n : Nat} (h : n < 100) : padN 2 n = dg2 n := by
  rw [padN_step (.inr (by omega)), padN_step (.inr (by omega)), show n / 10 / 10 = 0 by omega, show 2 - 1 - 1 = 0 from rfl, padN_end]
  unfold dg2
  rw [show n / 10 % 10 = n / 10 by omega]; rfl
theorem pad_4 {n : Nat} (h : n < 10000) : padN 4 n = dg4 n := by
  rw [padN_step (.inr (by omega)), padN_step (.inr (by omega)), padN_step (.inr (by omega)), padN_step (.inr (by omega)), show n / 10 / 10 / 10 / 10 = 0 by omega, show 4 - 1 - 1 - 1 - 1 = 0 from rfl, padN_end]
  unfold dg4
  rw [show n / 10 / 10 / 10 % 10 = n / 1000 by omega, show n / 10 / 10 % 10 = n / 100 % 10 by omega]; rfl
theorem rdig2_any (n : Nat) (w : World) (hn : n < 100) (_ : TxtW w) : Calls Tryz.prog 56 #[.int .i64 (n : Int), .int .i64 2] w (RetV (strV (dg2 n)) w) := by
  have := rdig5_any n 2 w (by omega) (by omega)
  rw [pad_2 hn] at this
  exact this
theorem rdig4_any (n : Nat) (w : World) (hn : n < 10000) (_ : TxtW w) : Calls Tryz.prog 56 #[.int .i64 (n : Int), .int .i64 4] w (RetV (strV (dg4 n)) w) := by
  have := rdig5_any n 4 w (by omega) (by omega)
  rw [pad_4 hn] at this
  exact this
set_option maxRecDepth 100000 in
set_option maxHeartbeats 2000000 in
theorem decimal_any (n : Nat) (w : World) (h2 : n ≤ 9223372036854775807) : Calls Tryz.prog 32 #[.int .i64 n] w (RetV (strV (Lib.decDigits n)) w) := by
  have LD := dec_len21 h2
  have ST : Hid (Lib.decDigits n = padN (1 - ([] : List UInt8).length) n ++ []) := hide (by rw [List.append_nil]; exact (padN_one n).symm)
  generalize Lib.decDigits n = D at *
  go_enter Tryz.func32, Tryz.ntmps32
  go_wp2
  go_loopw [0, 3] (fun v0 v5 wr => ∃ (out : List UInt8) (k : Nat), v5 = strV out ∧ v0 = .int .i64 k ∧ k ≤ 9223372036854775807 ∧ Hid (Below w.heap.size w wr) ∧ Hid (D = padN (1 - out.length) k ++ out)) (fun v0 v5 _ => (intOf v0).toNat + (1 - match v5 with | .string s => s.size | _ => 0))
  case atStart => exact ⟨[], n, rfl, rfl, h2, hide (Below.refl _ _), ST⟩
  case round =>
    obtain ⟨out, k, rfl, rfl, k2, HB, HD⟩ := hrel
    have ol : out.length ≤ 200 := by have := congrArg List.length HD.out; rw [List.length_append] at this; omega
    have os : (⟨out.toArray⟩ : ByteArray).size = out.length := by simp [ByteArray.size]
    by_cases hk : 0 < k ∨ out = []
    · have hk' : 0 < k ∨ 0 < 1 - out.length := by
        rcases hk with h | h
        · exact .inl h
        · rw [h]; simp
      have ST2 := padN_step hk'
      have dd : k % 10 < 10 := Nat.mod_lt _ (by decide)
      have CV := byte_convF (k % 10) dd wr
      have HD2 : Hid (D = padN (1 - (out.length + 1)) (k / 10) ++ (UInt8.ofNat (48 + k % 10) :: out)) := hide (by rw [HD.out, ST2, List.append_assoc]; rfl)
      have HB2 := hide (fun o => HB.out.alloc HB.out.size o)
      have e1 : (k : Int).tmod 10 = ((k % 10 : Nat) : Int) := rfl
      have e2 : (k : Int).tdiv 10 = ((k / 10 : Nat) : Int) := rfl
      have q2 : k / 10 ≤ k := Nat.div_le_self _ _
      have q3 : 0 < k → k / 10 < k := fun h => Nat.div_lt_self h (by decide)
      have l1 : ¬ 9223372036854775807 < 1 + out.length := by omega
      clear HD ST2 hk'
      generalize k % 10 = d at *
      generalize k / 10 = q at *
      generalize UInt8.ofNat (48 + d) = B at *
      have os2 : (⟨(B :: out).toArray⟩ : ByteArray).size = out.length + 1 := by simp [ByteArray.size]
      have c1 : (⟨#[B]⟩ : ByteArray) ++ ⟨out.toArray⟩ = ⟨(B :: out).toArray⟩ := ba_append [B] out
      by_cases hk1 : 0 < k
      · have d1 : decide ((0 : Int) < (k : Int)) = true := decide_eq_true (by omega)
        have l2 : q < k := q3 hk1
        clear q3 hk
        go_wp2
        go_roundw
        case rel => exact ⟨B :: out, q, rfl, rfl, by omega, hide (HB2.out _), by simpa using HD2⟩
        case measure => simp [intOf]; omega
      · have d1 : decide ((0 : Int) < (k : Int)) = false := decide_eq_false (by omega)
        have he : out = [] := by rcases hk with h | h; exact absurd h hk1; exact h
        subst he
        have d2 : ([] : List UInt8).isEmpty = true := rfl
        clear q3 hk
        go_wp2
        go_roundw
        case rel => exact ⟨[B], q, rfl, rfl, by omega, hide (HB2.out _), by simpa using HD2⟩
        case measure =>
          simp [intOf]
          show q + (1 - 1) < k + (1 - 0)
          omega
    · have k0 : k = 0 := by
        rcases Nat.eq_zero_or_pos k with h | h
        · exact h
        · exact absurd (.inl h) hk
      have hne : ¬ out = [] := fun h => hk (.inr h)
      subst k0
      have d1 : decide ((0 : Int) < ((0 : Nat) : Int)) = false := by decide
      have hl : 1 ≤ out.length := List.length_pos_iff.2 hne
      have d2 : out.isEmpty = false := by simpa using hne
      have E : Hid (D = out) := hide (by rw [HD.out, show 1 - out.length = 0 by omega, padN_end]; rfl)
      clear hk hne
      go_wp2
      go_ret
      exact ⟨by rw [E.out]; rfl, HB.out⟩
set_option maxRecDepth 100000 in
set_option maxHeartbeats 2000000 in
theorem rhours_any (s : Nat) (w : World) (hs : s < 86400) (ht : TxtW w) : Calls Tryz.prog 57 #[.int .i64 (s : Int)] w (RetV (strV (hmT s)) w) := by
  have q1 : (s : Int).tdiv 3600 = ((s / 3600 : Nat) : Int) := tdivN s 3600
  have q2 : (s : Int).tdiv 60 = ((s / 60 : Nat) : Int) := tdivN s 60
  have q3 : ((s / 60 : Nat) : Int).tmod 60 = ((s / 60 % 60 : Nat) : Int) := tmodN (s / 60) 60
  have q4 : (s : Int).tmod 60 = ((s % 60 : Nat) : Int) := tmodN s 60
  have D1 := hide (fun W h => rdig2_any (s / 3600) W (by omega) h)
  have D2 := hide (fun W h => rdig2_any (s / 60 % 60) W (by omega) h)
  have D3 := hide (fun W h => rdig2_any (s % 60) W (by omega) h)
  have V : Hid (hmT s = dg2 (s / 3600) ++ 58 :: (dg2 (s / 60 % 60) ++ 58 :: dg2 (s % 60))) := hide rfl
  have HT := hide ht
  have b1 : s / 3600 ≤ 86400 := by omega
  have b2 : s / 60 ≤ 86400 := by omega
  have la : (dg2 (s / 3600)).length = 2 := rfl
  have lb : (dg2 (s / 60 % 60)).length = 2 := rfl
  have lc : (dg2 (s % 60)).length = 2 := rfl
  clear ht
  generalize dg2 (s / 3600) = A at *
  generalize dg2 (s / 60 % 60) = B at *
  generalize dg2 (s % 60) = C at *
  generalize s / 60 % 60 = z2 at *
  generalize s / 60 = z3 at *
  generalize s / 3600 = z1 at *
  generalize s % 60 = z4 at *
  generalize hmT s = T at *
  obtain ⟨L1, hL1⟩ : ∃ L1, A ++ [58] = L1 := ⟨_, rfl⟩
  obtain ⟨L2, hL2⟩ : ∃ L2, L1 ++ B = L2 := ⟨_, rfl⟩
  obtain ⟨L3, hL3⟩ : ∃ L3, L2 ++ [58] = L3 := ⟨_, rfl⟩
  obtain ⟨L4, hL4⟩ : ∃ L4, L3 ++ C = L4 := ⟨_, rfl⟩
  have dL1 : (⟨A.toArray⟩ : ByteArray) ++ ⟨#[58]⟩ = ⟨L1.toArray⟩ := (ba_append A [58]).trans (by rw [hL1])
  have eL1 : L1.length = A.length + 1 := by rw [← hL1]; simp <;> omega
  have mL1 : ¬ 9223372036854775807 < A.length + 1 := by omega
  have dL2 : (⟨L1.toArray⟩ : ByteArray) ++ ⟨B.toArray⟩ = ⟨L2.toArray⟩ := (ba_append L1 B).trans (by rw [hL2])
  have eL2 : L2.length = L1.length + B.length := by rw [← hL2]; simp <;> omega
  have mL2 : ¬ 9223372036854775807 < L1.length + B.length := by omega
  have dL3 : (⟨L2.toArray⟩ : ByteArray) ++ ⟨#[58]⟩ = ⟨L3.toArray⟩ := (ba_append L2 [58]).trans (by rw [hL3])
  have eL3 : L3.length = L2.length + 1 := by rw [← hL3]; simp <;> omega
  have mL3 : ¬ 9223372036854775807 < L2.length + 1 := by omega
  have dL4 : (⟨L3.toArray⟩ : ByteArray) ++ ⟨C.toArray⟩ = ⟨L4.toArray⟩ := (ba_append L3 C).trans (by rw [hL4])
  have eL4 : L4.length = L3.length + C.length := by rw [← hL4]; simp <;> omega
  have mL4 : ¬ 9223372036854775807 < L3.length + C.length := by omega
  have FIN : Hid (T = L4) := hide (by rw [V.out, ← hL4, ← hL3, ← hL2, ← hL1]; simp)
  clear V la lb lc eL1 eL2 eL3 eL4 hL1 hL2 hL3 hL4
  go_enter Tryz.func57, Tryz.ntmps57
  go_wp2_with fail
  refine (D1.out _ HT.out).mono ?_
  rintro e w1 ⟨rfl, hb⟩
  have HB1 := hide hb
  clear hb
  go_wp2_with fail
  refine (D2.out _ (HT.out.below HB1.out)).mono ?_
  rintro e w2 ⟨rfl, hb⟩
  have HB2 := hide (below_via HB1.out HB1.out.size hb)
  clear hb
  go_wp2_with fail
  refine (D3.out _ (HT.out.below HB2.out)).mono ?_
  rintro e w3 ⟨rfl, hb⟩
  have HB3 := hide (below_via HB2.out HB2.out.size hb)
  clear hb
  go_wp2
  go_ret
  exact ⟨by rw [FIN.out]; rfl, HB3.out⟩
set_option maxRecDepth 100000 in
set_option maxHeartbeats 2000000 in
theorem rcktext_no (t : Int) (w : World) (h0 : -68719476736 ≤ t) (h1 : t ≤ 68719476736) (hn : t / 86400 < -730119) : Calls Tryz.prog 31 #[.int .i64 t] w (RetV (.tuple #[strV [], .int .i64 20]) w) := by
  have S := hide (fun W => rsplit5_no t W h0 h1 hn)
  unfold CSplitPost at S
  go_enter Tryz.func31, Tryz.ntmps31
  go_wp2_with fail
  refine (S.out _).mono ?_
  rintro e w1 ⟨rfl, hb⟩
  have HX := hide hb
  clear hb
  go_wp2
  go_ret2
  exact ⟨rfl, HX.out.alloc HX.out.size _⟩
set_option maxRecDepth 100000 in
set_option maxHeartbeats 4000000 in
theorem rcktext_any (t : Int) (y m d : Nat) (w : World) (h0 : -68719476736 ≤ t) (h1 : t ≤ 68719476736) (hD : IsD (t / 86400) y m d) (ht : TxtW w) : Calls Tryz.prog 31 #[.int .i64 t] w (RetV (.tuple #[strV (ckT y m d (t % 86400).toNat), .int .i64 0]) w) := by
  have S := hide (fun W => rsplit5_any t y m d W h0 h1 hD)
  unfold CSplitPost at S
  have HT := hide ht
  have sb : (t % 86400).toNat < 86400 := by omega
  obtain ⟨⟨y1, y2⟩, ⟨m1, m2⟩, d1, d2⟩ := hD.1
  have mb := md_bd y m m1 m2
  have D1 := hide (fun W h => rdig4_any y W (by omega) h)
  have D2 := hide (fun W h => rdig2_any m W (by omega) h)
  have D3 := hide (fun W h => rdig2_any d W (by omega) h)
  have D4 := hide (fun W h => rhours_any (t % 86400).toNat W sb h)
  have V : Hid (ckT y m d (t % 86400).toNat = dg4 y ++ 45 :: (dg2 m ++ 45 :: (dg2 d ++ 32 :: hmT (t % 86400).toNat))) := hide rfl
  have la : (dg4 y).length = 4 := rfl
  have lb : (dg2 m).length = 2 := rfl
  have lc : (dg2 d).length = 2 := rfl
  have ld : (hmT (t % 86400).toNat).length = 8 := rfl
  clear ht hD y1 y2 m1 m2 d1 d2 mb sb h0 h1
  generalize hmT (t % 86400).toNat = E at *
  generalize (t % 86400).toNat = s at *
  generalize ckT y m d s = T at *
  generalize dg4 y = A at *
  generalize dg2 m = B at *
  generalize dg2 d = C at *
  obtain ⟨L1, hL1⟩ : ∃ L1, A ++ [45] = L1 := ⟨_, rfl⟩
  obtain ⟨L2, hL2⟩ : ∃ L2, L1 ++ B = L2 := ⟨_, rfl⟩
  obtain ⟨L3, hL3⟩ : ∃ L3, L2 ++ [45] = L3 := ⟨_, rfl⟩
  obtain ⟨L4, hL4⟩ : ∃ L4, L3 ++ C = L4 := ⟨_, rfl⟩
  obtain ⟨L5, hL5⟩ : ∃ L5, L4 ++ [32] = L5 := ⟨_, rfl⟩
  obtain ⟨L6, hL6⟩ : ∃ L6, L5 ++ E = L6 := ⟨_, rfl⟩
  have dL1 : (⟨A.toArray⟩ : ByteArray) ++ ⟨#[45]⟩ = ⟨L1.toArray⟩ := (ba_append A [45]).trans (by rw [hL1])
  have eL1 : L1.length = A.length + 1 := by rw [← hL1]; simp <;> omega
  have mL1 : ¬ 9223372036854775807 < A.length + 1 := by omega
  have dL2 : (⟨L1.toArray⟩ : ByteArray) ++ ⟨B.toArray⟩ = ⟨L2.toArray⟩ := (ba_append L1 B).trans (by rw [hL2])
  have eL2 : L2.length = L1.length + B.length := by rw [← hL2]; simp <;> omega
  have mL2 : ¬ 9223372036854775807 < L1.length + B.length := by omega
  have dL3 : (⟨L2.toArray⟩ : ByteArray) ++ ⟨#[45]⟩ = ⟨L3.toArray⟩ := (ba_append L2 [45]).trans (by rw [hL3])
  have eL3 : L3.length = L2.length + 1 := by rw [← hL3]; simp <;> omega
  have mL3 : ¬ 9223372036854775807 < L2.length + 1 := by omega
  have dL4 : (⟨L3.toArray⟩ : ByteArray) ++ ⟨C.toArray⟩ = ⟨L4.toArray⟩ := (ba_append L3 C).trans (by rw [hL4])
  have eL4 : L4.length = L3.length + C.length := by rw [← hL4]; simp <;> omega
  have mL4 : ¬ 9223372036854775807 < L3.length + C.length := by omega
  have dL5 : (⟨L4.toArray⟩ : ByteArray) ++ ⟨#[32]⟩ = ⟨L5.toArray⟩ := (ba_append L4 [32]).trans (by rw [hL5])
  have eL5 : L5.length = L4.length + 1 := by rw [← hL5]; simp <;> omega
  have mL5 : ¬ 9223372036854775807 < L4.length + 1 := by omega
  have dL6 : (⟨L5.toArray⟩ : ByteArray) ++ ⟨E.toArray⟩ = ⟨L6.toArray⟩ := (ba_append L5 E).trans (by rw [hL6])
  have eL6 : L6.length = L5.length + E.length := by rw [← hL6]; simp <;> omega
  have mL6 : ¬ 9223372036854775807 < L5.length + E.length := by omega
  have FIN : Hid (T = L6) := hide (by rw [V.out, ← hL6, ← hL5, ← hL4, ← hL3, ← hL2, ← hL1]; simp)
  clear V la lb lc ld eL1 eL2 eL3 eL4 eL5 eL6 hL1 hL2 hL3 hL4 hL5 hL6
  go_enter Tryz.func31, Tryz.ntmps31
  go_wp2_with fail
  refine (S.out _).mono ?_
  rintro e w1 ⟨rfl, hb⟩
  have X := ((Own.start w).to hb).alloc #[.int .i64 (y : Int), .int .i64 (m : Int), .int .i64 (d : Int)] 96
  have hr := X.r1
  have NE : Nonempty (OwnW w [(w1.heap.size, 96, #[.int .i64 (y : Int), .int .i64 (m : Int), .int .i64 (d : Int)])]) := ⟨⟨_, X⟩⟩
  have C1 := fun x : OwnW w [(w1.heap.size, 96, #[.int .i64 (y : Int), .int .i64 (m : Int), .int .i64 (d : Int)])] => x.own.r1
  have K := fun x : OwnW w [(w1.heap.size, 96, #[.int .i64 (y : Int), .int .i64 (m : Int), .int .i64 (d : Int)])] => HT.out.below x.own.1
  have HX := hide X
  clear X hb
  go_wp2_with fail
  refine wp_region_own (w := w) (L := [(w1.heap.size, 96, #[.int .i64 (y : Int), .int .i64 (m : Int), .int .i64 (d : Int)])]) (by kernel_rfl) (by kernel_rfl) HX.out ?_
  repeat (go_big_quiet_step ((rename_i x; first | with_reducible exact own_call (D1.out _ (K _)) | with_reducible exact own_call (D2.out _ (K _)) | with_reducible exact own_call (D3.out _ (K _)) | with_reducible exact own_call (D4.out _ (K _)))))
  refine wpQuiet_nil ?_
  rintro W ⟨⟨W, HO⟩, rfl⟩
  have HZ := hide HO.1
  clear HO HX hr C1 K NE
  go_wp2
  go_ret2
  exact ⟨by rw [FIN.out]; rfl, HZ.out⟩
end Go.Proofs.YtkjndkeboeieoaaGreatDoor

namespace Go.Proofs.YtkjndkeboeieoaaGreatDoor
open Go Go.RowKit

theorem tkG_len {h : List UInt8} {l : List Int} (hl : ∀ n ∈ l, depR n) : ∀ k, k ≤ l.length → (tkG h l k).length ≤ h.length + 16 * k
  | 0, _ => by simp [tkG]
  | k + 1, hk => by
    have ih := tkG_len (h := h) hl k (by omega)
    have hx := hl (l.getD k 0) (by rw [List.getD_eq_getElem?_getD, List.getElem?_eq_getElem (by omega), Option.getD_some]; exact List.getElem_mem _)
    have := wdT_len hx.1 hx.2
    rw [tkG, List.length_append, List.length_cons]
    omega
set_option maxRecDepth 100000 in
set_option maxHeartbeats 1000000 in
theorem rtext17_no (s : Ser) (a : SerA) (w : World) (hv : vS s = true) (hn : s.fr / 86400 < -730119) : Calls Tryz.prog 9 #[s.val a] w (RetV (.tuple #[strV [], .int .i64 20]) w) := by
  have v := vS_iff.1 hv
  have T := hide (fun W => rcktext_no s.fr W v.fr.1 v.fr.2 hn)
  have X := (Own.start w).alloc (s.cells a) 24
  clear hv v hn
  have hr := X.r1
  go_enter Tryz.func9, Tryz.ntmps9
  go_wp2_with fail
  refine (T.out _).mono ?_
  rintro e w2 ⟨rfl, hb⟩
  replace X := X.to hb
  clear hb hr
  go_wp2
  go_ret2
  exact ⟨rfl, X.1⟩
set_option maxRecDepth 100000 in
set_option maxHeartbeats 4000000 in
theorem rtext17_in (s : Ser) (a : SerA) (y mo d : Nat) (w : World) (hs : SerSl w s a) (hv : vS s = true) (hD : IsD (s.fr / 86400) y mo d) (ht : TxtW w) : Calls Tryz.prog 9 #[s.val a] w (RetV (.tuple #[strV (txG (hdT y mo d (s.fr % 86400).toNat s.st) s.ds), .int .i64 0]) w) := by
  have v := vS_iff.1 hv
  have T := hide (fun W h => rcktext_any s.fr y mo d W v.fr.1 v.fr.2 hD h)
  obtain ⟨sn, hsn⟩ : ∃ sn : Nat, s.st = (sn : Int) := ⟨s.st.toNat, by have := v.st; omega⟩
  have IT : Hid (∀ W, Calls Tryz.prog 32 #[.int .i64 s.st] W (RetV (strV (Lib.itoa s.st)) W)) := hide (fun W => by
    have := decimal_any sn W (by have := v.st; omega)
    rw [← itoa_nat, ← hsn] at this
    exact this)
  have dep := hide (vS_dep hv)
  have hle := v.le
  have HT := hide ht
  have ckl : (ckT y mo d (s.fr % 86400).toNat).length ≤ 19 := by rw [ckT_len]; exact Nat.le_refl _
  have itl := Lib.itoa_length_le s.st (by have := v.st; omega) (by have := v.st; omega)
  have HH : Hid (hdT y mo d (s.fr % 86400).toNat s.st = [114, 97, 105, 110, 32] ++ (ckT y mo d (s.fr % 86400).toNat ++ ([32, 115, 116, 101, 112, 32] ++ Lib.itoa s.st))) := hide rfl
  clear hv v hD ht hsn
  obtain ⟨fr, st, l⟩ := s
  obtain ⟨A, c⟩ := a
  have HS := hide hs
  clear hs
  show Calls Tryz.prog 9 #[.agg #[.int .i64 fr, .int .i64 st, .slice A l.length c]] w (RetV (.tuple #[strV (txG (hdT y mo d (fr % 86400).toNat st) l), .int .i64 0]) w)
  dsimp only at T IT dep hle ckl itl HH
  generalize hdT y mo d (fr % 86400).toNat st = h at *
  generalize ckT y mo d (fr % 86400).toNat = ck at *
  generalize Lib.itoa st = it at *
  obtain ⟨L1, hL1⟩ : ∃ L1, [114, 97, 105, 110, 32] ++ ck = L1 := ⟨_, rfl⟩
  obtain ⟨L2, hL2⟩ : ∃ L2, L1 ++ [32, 115, 116, 101, 112, 32] = L2 := ⟨_, rfl⟩
  obtain ⟨L3, hL3⟩ : ∃ L3, L2 ++ it = L3 := ⟨_, rfl⟩
  have dL1 : (⟨#[114, 97, 105, 110, 32]⟩ : ByteArray) ++ ⟨ck.toArray⟩ = ⟨L1.toArray⟩ := (ba_append [114, 97, 105, 110, 32] ck).trans (by rw [hL1])
  have eL1 : L1.length = 5 + ck.length := by rw [← hL1]; simp <;> omega
  have mL1 : ¬ 9223372036854775807 < 5 + ck.length := by omega
  have dL2 : (⟨L1.toArray⟩ : ByteArray) ++ ⟨#[32, 115, 116, 101, 112, 32]⟩ = ⟨L2.toArray⟩ := (ba_append L1 [32, 115, 116, 101, 112, 32]).trans (by rw [hL2])
  have eL2 : L2.length = L1.length + 6 := by rw [← hL2]; simp <;> omega
  have mL2 : ¬ 9223372036854775807 < L1.length + 6 := by omega
  have dL3 : (⟨L2.toArray⟩ : ByteArray) ++ ⟨it.toArray⟩ = ⟨L3.toArray⟩ := (ba_append L2 it).trans (by rw [hL3])
  have eL3 : L3.length = L2.length + it.length := by rw [← hL3]; simp <;> omega
  have mL3 : ¬ 9223372036854775807 < L2.length + it.length := by omega
  have H3 : Hid (h = L3) := hide (by rw [HH.out, ← hL3, ← hL2, ← hL1]; simp)
  have lh : h.length ≤ 60 := by rw [HH.out]; simp only [List.length_append, List.length_cons, List.length_nil]; omega
  have TL := hide (fun k h1 => tkG_len (h := h) dep.out k h1)
  have TE := hide (tkG_end h l)
  have TS : Hid (∀ k, tkG h l (k + 1) = tkG h l k ++ sepG k :: wdT (l.getD k 0)) := hide (fun k => rfl)
  have T0 : Hid (tkG h l 0 = h) := hide rfl
  clear hL1 hL2 hL3 eL1 eL2 eL3 HH ckl itl
  have X := (Own.start w).alloc #[.int .i64 fr, .int .i64 st, .slice A l.length c] 24
  have hr := X.r1
  go_enter Tryz.func9, Tryz.ntmps9
  go_wp2_with fail
  refine (T.out _ (HT.out.below X.1)).mono ?_
  rintro e w1 ⟨rfl, hb⟩
  replace X := X.to hb
  clear hb hr T
  have hr := X.r1
  go_wp2_with fail
  refine (IT.out _).mono ?_
  rintro e w2 ⟨rfl, hb⟩
  have XH := hide (X.to hb)
  clear hb hr X IT
  go_wp2
  go_loopw [6, 7] (fun v6 v7 wr => ∃ k : Nat, k ≤ l.length ∧ v7 = .int .i64 (k : Int) ∧ v6 = strV (tkG h l k) ∧ Hid (Own w wr [(w.heap.size, 24, #[.int .i64 fr, .int .i64 st, .slice A l.length c])])) (fun _ v7 _ => l.length - (intOf v7).toNat)
  case atStart => exact ⟨0, Nat.zero_le _, rfl, by rw [T0.out, H3.out], XH⟩
  case round =>
    obtain ⟨k, hk, rfl, rfl, HO⟩ := hrel
    have hr := HO.out.r1
    by_cases hlt : k < l.length
    · have EX := hide (TS.out k)
      have HA' : Hid (tkG h l (k + 1) = tkG h l (k + 1)) := hide rfl
      obtain ⟨acc', hacc'⟩ : ∃ acc', tkG h l (k + 1) = acc' := ⟨_, rfl⟩
      replace HA' := hide hacc'
      rw [hacc'] at EX
      clear hacc'
      have tl := TL.out k (by omega)
      obtain ⟨b, off, rfl, hbl, hat⟩ := HS.out.1.atg (by show 0 < l.length; omega)
      have c0 := (HO.out.1.cell (p := ⟨b, off + k, none⟩) hbl).trans (hat k hlt)
      have dn := dep.out (l.getD k 0) (by rw [List.getD_eq_getElem?_getD, List.getElem?_eq_getElem (by omega), Option.getD_some]; exact List.getElem_mem _)
      have d0 := dn.1
      have d1 := dn.2
      have wl := wdT_len d0 d1
      have tm : (k : Int).tmod 12 = ((k % 12 : Nat) : Int) := by rw [Int.tmod_eq_emod_of_nonneg (by omega)]; rfl
      have al : (tkG h l k).length ≤ 170000 := by omega
      have HAT := hide hat
      clear hat dn tl
      generalize tkG h l k = acc at *
      generalize l.getD k 0 = dd at *
      by_cases hm : k % 12 = 0
      · have SE : sepG k = 10 := by unfold sepG; rw [if_pos hm]
        have q1 : (((k % 12 : Nat) : Int) == 0) = true := beq_iff_eq.2 (by omega)
        generalize ((k % 12 : Nat) : Int) = km at *
        clear hm
        by_cases hd : dd < 0
        · have WDN : wdT dd = [45] := by unfold wdT; rw [if_pos (by omega)]
          have q2 : decide (dd < 0) = true := decide_eq_true hd
          clear hd wl d0 d1 HAT
          obtain ⟨L5, hL5⟩ : ∃ L5, acc ++ [10] = L5 := ⟨_, rfl⟩
          obtain ⟨L6, hL6⟩ : ∃ L6, L5 ++ [45] = L6 := ⟨_, rfl⟩
          have d5 : (⟨acc.toArray⟩ : ByteArray) ++ ⟨#[10]⟩ = ⟨L5.toArray⟩ := (ba_append acc [10]).trans (by rw [hL5])
          have d6 : (⟨L5.toArray⟩ : ByteArray) ++ ⟨#[45]⟩ = ⟨L6.toArray⟩ := (ba_append L5 [45]).trans (by rw [hL6])
          have e5 : L5.length = acc.length + 1 := by rw [← hL5]; simp
          have m5 : ¬ 9223372036854775807 < acc.length + 1 := by omega
          have m6 : ¬ 9223372036854775807 < L5.length + 1 := by omega
          have E6 : Hid (acc' = L6) := hide (by rw [EX.out, SE, WDN, ← hL6, ← hL5]; simp)
          clear EX SE hL5 hL6 e5 WDN
          go_wp2
          go_roundw
          case rel => exact ⟨k + 1, by omega, by go_num, by rw [HA'.out, E6.out], HO⟩
          case measure => simp [intOf]; omega
        · have WDP : wdT dd = Lib.itoa dd := by unfold wdT; rw [if_neg (by omega)]
          have q2 : decide (dd < 0) = false := decide_eq_false hd
          obtain ⟨dk, rfl⟩ : ∃ dk : Nat, dd = (dk : Int) := ⟨dd.toNat, by omega⟩
          have DC := hide (fun W => decimal_any dk W (by omega))
          rw [itoa_nat] at WDP
          rw [WDP] at wl
          generalize Lib.decDigits dk = wd at *
          clear hd d0 d1 HAT
          obtain ⟨L5, hL5⟩ : ∃ L5, acc ++ [10] = L5 := ⟨_, rfl⟩
          obtain ⟨L6, hL6⟩ : ∃ L6, L5 ++ wd = L6 := ⟨_, rfl⟩
          have d5 : (⟨acc.toArray⟩ : ByteArray) ++ ⟨#[10]⟩ = ⟨L5.toArray⟩ := (ba_append acc [10]).trans (by rw [hL5])
          have d6 : (⟨L5.toArray⟩ : ByteArray) ++ ⟨wd.toArray⟩ = ⟨L6.toArray⟩ := (ba_append L5 wd).trans (by rw [hL6])
          have e5 : L5.length = acc.length + 1 := by rw [← hL5]; simp
          have m5 : ¬ 9223372036854775807 < acc.length + 1 := by omega
          have m6 : ¬ 9223372036854775807 < L5.length + wd.length := by omega
          have E6 : Hid (acc' = L6) := hide (by rw [EX.out, SE, WDP, ← hL6, ← hL5]; simp)
          clear EX SE hL5 hL6 e5 WDP
          go_wp2_with fail
          refine (DC.out _).mono ?_
          rintro e w3 ⟨rfl, hb⟩
          have HO3 := hide (HO.out.to hb)
          clear hb hr HO
          go_wp2
          go_roundw
          case rel => exact ⟨k + 1, by omega, by go_num, by rw [HA'.out, E6.out], HO3⟩
          case measure => simp [intOf]; omega
      · have SE : sepG k = 32 := by unfold sepG; rw [if_neg hm]
        have q1 : (((k % 12 : Nat) : Int) == 0) = false := beq_eq_false_iff_ne.2 (by omega)
        generalize ((k % 12 : Nat) : Int) = km at *
        clear hm
        by_cases hd : dd < 0
        · have WDN : wdT dd = [45] := by unfold wdT; rw [if_pos (by omega)]
          have q2 : decide (dd < 0) = true := decide_eq_true hd
          clear hd wl d0 d1 HAT
          obtain ⟨L5, hL5⟩ : ∃ L5, acc ++ [32] = L5 := ⟨_, rfl⟩
          obtain ⟨L6, hL6⟩ : ∃ L6, L5 ++ [45] = L6 := ⟨_, rfl⟩
          have d5 : (⟨acc.toArray⟩ : ByteArray) ++ ⟨#[32]⟩ = ⟨L5.toArray⟩ := (ba_append acc [32]).trans (by rw [hL5])
          have d6 : (⟨L5.toArray⟩ : ByteArray) ++ ⟨#[45]⟩ = ⟨L6.toArray⟩ := (ba_append L5 [45]).trans (by rw [hL6])
          have e5 : L5.length = acc.length + 1 := by rw [← hL5]; simp
          have m5 : ¬ 9223372036854775807 < acc.length + 1 := by omega
          have m6 : ¬ 9223372036854775807 < L5.length + 1 := by omega
          have E6 : Hid (acc' = L6) := hide (by rw [EX.out, SE, WDN, ← hL6, ← hL5]; simp)
          clear EX SE hL5 hL6 e5 WDN
          go_wp2
          go_roundw
          case rel => exact ⟨k + 1, by omega, by go_num, by rw [HA'.out, E6.out], HO⟩
          case measure => simp [intOf]; omega
        · have WDP : wdT dd = Lib.itoa dd := by unfold wdT; rw [if_neg (by omega)]
          have q2 : decide (dd < 0) = false := decide_eq_false hd
          obtain ⟨dk, rfl⟩ : ∃ dk : Nat, dd = (dk : Int) := ⟨dd.toNat, by omega⟩
          have DC := hide (fun W => decimal_any dk W (by omega))
          rw [itoa_nat] at WDP
          rw [WDP] at wl
          generalize Lib.decDigits dk = wd at *
          clear hd d0 d1 HAT
          obtain ⟨L5, hL5⟩ : ∃ L5, acc ++ [32] = L5 := ⟨_, rfl⟩
          obtain ⟨L6, hL6⟩ : ∃ L6, L5 ++ wd = L6 := ⟨_, rfl⟩
          have d5 : (⟨acc.toArray⟩ : ByteArray) ++ ⟨#[32]⟩ = ⟨L5.toArray⟩ := (ba_append acc [32]).trans (by rw [hL5])
          have d6 : (⟨L5.toArray⟩ : ByteArray) ++ ⟨wd.toArray⟩ = ⟨L6.toArray⟩ := (ba_append L5 wd).trans (by rw [hL6])
          have e5 : L5.length = acc.length + 1 := by rw [← hL5]; simp
          have m5 : ¬ 9223372036854775807 < acc.length + 1 := by omega
          have m6 : ¬ 9223372036854775807 < L5.length + wd.length := by omega
          have E6 : Hid (acc' = L6) := hide (by rw [EX.out, SE, WDP, ← hL6, ← hL5]; simp)
          clear EX SE hL5 hL6 e5 WDP
          go_wp2_with fail
          refine (DC.out _).mono ?_
          rintro e w3 ⟨rfl, hb⟩
          have HO3 := hide (HO.out.to hb)
          clear hb hr HO
          go_wp2
          go_roundw
          case rel => exact ⟨k + 1, by omega, by go_num, by rw [HA'.out, E6.out], HO3⟩
          case measure => simp [intOf]; omega
    · obtain rfl : k = l.length := by omega
      have tl := TL.out l.length (Nat.le_refl _)
      obtain ⟨L7, hL7⟩ : ∃ L7, tkG h l l.length ++ [10] = L7 := ⟨_, rfl⟩
      have al : (tkG h l l.length).length ≤ 170000 := by omega
      have E : Hid (txG h l = L7) := hide (by unfold txG; rw [← TE.out]; exact hL7)
      generalize tkG h l l.length = acc at *
      have d7 : (⟨acc.toArray⟩ : ByteArray) ++ ⟨#[10]⟩ = ⟨L7.toArray⟩ := (ba_append acc [10]).trans (by rw [hL7])
      have m7 : ¬ 9223372036854775807 < acc.length + 1 := by omega
      clear hL7 tl
      have HB := hide HO.out.1
      go_wp2
      go_ret2
      exact ⟨by rw [E.out]; rfl, HB.out⟩
end Go.Proofs.YtkjndkeboeieoaaGreatDoor

namespace Go.Proofs.YtkjndkeboeieoaaGreatDoor
open Go Go.RowKit

set_option maxRecDepth 100000 in
set_option maxHeartbeats 4000000 in
theorem texts17_law (s : Ser) (q : SerA) (x : ByteArray) (w : World) (hs : SerSl w s q) (hx : TxtW w) : Calls Tryz.prog 3 #[s.val q, .string x] w (BPost true w) := by
  obtain ⟨A, c⟩ := q
  have X := (Own.start w).alloc #[.int .i64 s.fr, .int .i64 s.st, .slice A s.ds.length c] 24
  have HS := hide (fun W (hb : Below w.heap.size w W) => hs.below hb)
  have HT := hide (hx.below X.1)
  clear hs hx
  have P1 : Hid (x.size ≤ 900000 → ∀ W, TxtW W → Calls Tryz.prog 10 #[.string x] W (PgPost x.data.toList W)) := hide (fun h W hW => by
    have := ggparse_any x.data.toList W (by simpa using h) hW
    rw [strV_data] at this
    exact this)
  have P2 : Hid (x.size ≤ 900000 → ∀ W, Calls Tryz.prog 11 #[.string x] W (RpPost x.data.toList W)) := hide (fun h W => by
    have := rparse_any x.data.toList W (by simpa using h)
    rw [strV_data] at this
    exact this)
  obtain ⟨t, er2, hrel, CT0⟩ := ggtext_cases s ⟨A, c⟩
  have CT := hide CT0
  have VR := hide (fun W (hb : Below w.heap.size w W) => rfvalid17_any s ⟨A, c⟩ W (HS.out W hb))
  have RT : Hid (vS s = true → (∀ W, Below w.heap.size w W → TxtW W → Calls Tryz.prog 9 #[s.val ⟨A, c⟩] W (RetV (.tuple #[strV t, .int .i64 er2]) W))) := hide (fun hv W hb hW => by
    rcases hrel with ⟨h, _⟩ | ⟨_, h2, rfl, rfl⟩ | ⟨_, rfl, y, m, d, hD, rfl⟩
    · rw [hv] at h; cases h
    · exact rtext17_no s ⟨A, c⟩ W hv h2
    · exact rtext17_in s ⟨A, c⟩ y m d W (HS.out W hb) hv hD hW)
  have HB : Hid (vS s = false → t = [] ∧ er2 = 1) := hide (fun hv => by
    rcases hrel with ⟨_, h1, h2⟩ | ⟨h, _⟩ | ⟨h, _⟩
    · exact ⟨h1, h2⟩
    · rw [hv] at h; cases h
    · rw [hv] at h; cases h)
  clear CT0 hrel
  have hr := X.r1
  go_enter Tryz.func3, Tryz.ntmps3
  go_wp2_with fail
  refine (awake_any _).mono ?_
  rintro e w1 ⟨rfl, hb⟩
  replace X := X.to hb
  replace HT := hide (HT.out.below hb)
  clear hb hr
  have hr := X.r1
  have XB := X.alloc #[.int .i64 s.fr, .int .i64 s.st, .slice A s.ds.length c] 24
  have B0 := hide ((Below.refl w1.heap.size w1).alloc (Nat.le_refl _) (.cells #[.int .i64 s.fr, .int .i64 s.st, .slice A s.ds.length c] 24))
  go_wp2_with fail
  refine (few_one s ⟨A, c⟩ _ _ (XB.2 _ (List.mem_cons_self ..))).mono ?_
  rintro e w2 ⟨rfl, hb⟩
  replace X := (XB.to hb).tail
  replace HT := hide ((HT.out.below B0.out).below hb)
  clear hb hr XB B0
  have hr := X.r1
  by_cases h200 : 200 < s.ds.length
  · rw [long_yes h200]
    go_wp2
    go_ret
    exact ⟨rfl, X.1⟩
  rw [long_no (show s.ds.length ≤ 200 by omega)]
  by_cases h2 : 3000 < x.size
  · have q1 : decide ((3000 : Int) < (x.size : Int)) = true := decide_eq_true (by omega)
    go_wp2
    go_ret
    exact ⟨rfl, X.1⟩
  have q1 : decide ((3000 : Int) < (x.size : Int)) = false := decide_eq_false (by omega)
  have P1' := hide (P1.out (by omega))
  have P2' := hide (P2.out (by omega))
  clear P1 P2 h2 h200
  go_wp2_with fail
  refine (CT.out _ (HS.out _ X.1) HT.out).mono ?_
  rintro e w3 ⟨rfl, hb⟩
  replace X := X.to hb
  replace HT := hide (HT.out.below hb)
  clear hb hr CT
  have hr := X.r1
  go_wp2_with fail
  refine (VR.out _ X.1).mono ?_
  rintro e w4 ⟨rfl, hb⟩
  replace X := hide (X.to hb)
  replace HT := hide (HT.out.below hb)
  clear hb hr VR
  have hr := X.out.r1
  go_upto_if 34 with (fail)
  go_cut [] (fun wx => Hid (Own w wx [(w.heap.size, 24, #[.int .i64 s.fr, .int .i64 s.st, .slice A s.ds.length c])] ∧ TxtW wx))
  case first =>
    clear P1' P2'
    cases hv : vS s with
    | false =>
      obtain ⟨rfl, rfl⟩ := HB.out hv
      have Y := hide (And.intro X.out HT.out)
      clear X HT RT HB hv
      go_wp2_with fail
      go_meet
      exact Y
    | true =>
      have R := hide (RT.out hv _ X.out.1 HT.out)
      have e1 : (t == t) = true := by simp
      have e2 : (t != t) = false := by simp
      have e3 : (er2 == er2) = true := by simp
      have e4 : (er2 != er2) = false := by simp
      clear RT HB hv
      go_wp2_with fail
      refine R.out.mono ?_
      rintro e w5 ⟨rfl, hb⟩
      have Y := hide (And.intro (X.out.to hb) (HT.out.below hb))
      clear hb hr X HT R
      go_wp2_with fail
      go_meet
      exact Y
  case rest =>
    clear hr X HT RT HB
    have X := hide hcut.out.1
    have HT := hide hcut.out.2
    clear hcut
    have hr := X.out.r1
    have PE := prG_err x.data.toList
    have LN0 := hide PE.2.2
    have CL : Hid ((¬ 0 < (prG x.data.toList).2.1 → colG (prG x.data.toList).2.1 = 0) ∧ (0 < (prG x.data.toList).2.1 → colG (prG x.data.toList).2.1 = 1)) := hide ⟨fun h => by unfold colG; rw [if_pos (by have := LN0.out; omega)], fun h => by unfold colG; rw [if_neg (by omega)]⟩
    unfold PgPost at P1'
    unfold RpPost at P2'
    generalize colG (prG x.data.toList).2.1 = cl at *
    generalize (prG x.data.toList).2.1 = ln at *
    generalize (prG x.data.toList).2.2 = er at *
    generalize (prG x.data.toList).1 = T1 at *
    clear PE
    go_wp2_with fail
    refine (P1'.out _ HT.out).mono ?_
    rintro e w3 ⟨hb, ⟨B, d⟩, rfl, hT10⟩
    have B1 := ((Below.refl w3.heap.size w3).alloc (Nat.le_refl _) (.cells #[.int .i64 T1.fr, .int .i64 T1.st, .slice B T1.ds.length d] 24)).alloc (by simp) (.cells #[.int .i64 ln, .int .i64 cl] 34)
    have X0 := ((X.out.to hb).alloc #[.int .i64 T1.fr, .int .i64 T1.st, .slice B T1.ds.length d] 24).alloc #[.int .i64 ln, .int .i64 cl] 34
    rw [World.size_alloc] at X0
    have X1 := hide X0
    have B1' := hide B1
    have hT1 := hide hT10
    have XS := X.out.1.size
    have hbs := hb.size
    clear hb hr P1' X HT X0 hT10 B1
    have hr := X1.out.r3
    go_wp2_with fail
    refine (P2'.out _).mono ?_
    rintro e w4 ⟨hb, ⟨B2, d2⟩, rfl, hT20⟩
    have hT2 := hide hT20
    have X := hide (X1.out.to hb)
    have Z0 : w3.heap.size + 1 < w4.heap.size := (X.out.r1).2.2
    clear hr P2' X1 hT20
    by_cases h : 0 < ln
    · skip
      have q : decide ((0 : Int) < ln) = true := decide_eq_true h
      have cE : cl = 1 := CL.out.2 h
      subst cE

      have e1 : (ln == (ln : Int)) = true := by simp
      have e2 : (er == er) = true := by simp
      have B3 := hide (((below_via B1'.out (Nat.le_of_lt (by simp only [World.size_alloc]; omega)) hb).alloc (by omega) (.cells #[.int .i64 T1.fr, .int .i64 T1.st, .slice B2 T1.ds.length d2] 24)).alloc (by simp; omega) (.cells #[.int .i64 ln, .int .i64 1] 34))
      have B4 := hide (((Below.refl w4.heap.size w4).alloc (Nat.le_refl _) (.cells #[.int .i64 T1.fr, .int .i64 T1.st, .slice B2 T1.ds.length d2] 24)).alloc (by simp) (.cells #[.int .i64 ln, .int .i64 1] 34))
      have X0 := (X.out.alloc #[.int .i64 T1.fr, .int .i64 T1.st, .slice B2 T1.ds.length d2] 24).alloc #[.int .i64 ln, .int .i64 1] 34
      rw [World.size_alloc] at X0
      have X5 := hide X0
      have SM := hide (same_any T1 ⟨B, d⟩ T1 ⟨B2, d2⟩ _ (hT1.out.below B3.out) (hT2.out.below B4.out))
      rw [sameB_self] at SM
      clear X0 B3 B4 hT1 hT2 CL h hb B1'
      have hr := X.out.r3
      go_wp2_with fail
      refine SM.out.mono ?_
      rintro e w5 ⟨rfl, hb⟩
      have X6 := hide (X5.out.to hb)
      clear hr hb X5 SM
      have hr := X6.out.r4
      go_wp2
      go_ret
      exact ⟨rfl, X6.out.1⟩
    · skip
      have q : decide ((0 : Int) < ln) = false := decide_eq_false h
      have cE : cl = 0 := CL.out.1 (by omega)
      subst cE
      have l0 : ln = 0 := by have := LN0.out; omega
      subst l0
      have e1 : (0 == (0 : Int)) = true := by simp
      have e2 : (er == er) = true := by simp
      have B3 := hide (((below_via B1'.out (Nat.le_of_lt (by simp only [World.size_alloc]; omega)) hb).alloc (by omega) (.cells #[.int .i64 T1.fr, .int .i64 T1.st, .slice B2 T1.ds.length d2] 24)).alloc (by simp; omega) (.cells #[.int .i64 0, .int .i64 0] 34))
      have B4 := hide (((Below.refl w4.heap.size w4).alloc (Nat.le_refl _) (.cells #[.int .i64 T1.fr, .int .i64 T1.st, .slice B2 T1.ds.length d2] 24)).alloc (by simp) (.cells #[.int .i64 0, .int .i64 0] 34))
      have X0 := (X.out.alloc #[.int .i64 T1.fr, .int .i64 T1.st, .slice B2 T1.ds.length d2] 24).alloc #[.int .i64 0, .int .i64 0] 34
      rw [World.size_alloc] at X0
      have X5 := hide X0
      have SM := hide (same_any T1 ⟨B, d⟩ T1 ⟨B2, d2⟩ _ (hT1.out.below B3.out) (hT2.out.below B4.out))
      rw [sameB_self] at SM
      clear X0 B3 B4 hT1 hT2 CL h hb B1'
      have hr := X.out.r3
      go_wp2_with fail
      refine SM.out.mono ?_
      rintro e w5 ⟨rfl, hb⟩
      have X6 := hide (X5.out.to hb)
      clear hr hb X5 SM
      have hr := X6.out.r4
      go_wp2
      go_ret
      exact ⟨rfl, X6.out.1⟩
end Go.Proofs.YtkjndkeboeieoaaGreatDoor
