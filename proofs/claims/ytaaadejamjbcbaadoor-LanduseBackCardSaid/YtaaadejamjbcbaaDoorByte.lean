/- Bytes of strings: the rest of a string from a place on. -/
import Derived.Test.YtaaadejamjbcbaaDoorDecP
namespace Go.Proofs.YtaaadejamjbcbaaDoor
open Go Go.RowKit

theorem drop_byteD (s : ByteArray) (k : Nat) (h : k < s.size) : s.data.toList.drop k = s[k] :: s.data.toList.drop (k + 1) := by
  rw [List.drop_eq_getElem_cons (by simpa using h)]; rfl
theorem byteD (b : UInt8) : (0 : Int) ≤ (b.toNat : Int) ∧ (b.toNat : Int) < 256 := ⟨by omega, by have := b.toNat_lt; omega⟩
theorem head_byte (s : ByteArray) (h : 0 < s.size) : s.data.toList.head? = some s[0] := by
  have := drop_byteD s 0 h
  rw [List.drop_zero] at this
  rw [this]; rfl
theorem enc_digit (d : Nat) (h : d < 10) : Utf8.encode (48 + (d : Int)) = ⟨#[UInt8.ofNat (48 + d)]⟩ := by
  have key : ∀ d : Fin 10, Utf8.encode (48 + (d.val : Int)) = ⟨#[UInt8.ofNat (48 + d.val)]⟩ := by decide +kernel
  exact key ⟨d, h⟩
/-- the numeral by its last digit -/
theorem itoa_last {n : Int} {q : Int} {d : Nat} (h : 10 ≤ n.natAbs) (hq : n.tdiv 10 = q) (hd : (n.tmod 10).natAbs = d) : Lib.itoa n = Lib.itoa q ++ [UInt8.ofNat (48 + d)] := by
  have e1 : q.natAbs = n.natAbs / 10 := by rw [← hq, Int.natAbs_tdiv]; rfl
  have e2 : d = n.natAbs % 10 := by rw [← hd, Int.natAbs_tmod]; rfl
  by_cases hn : n < 0
  · have rb : d < 10 := by rw [e2]; exact Nat.mod_lt _ (by decide)
    have rq := Int.tmod_add_mul_tdiv n 10
    rw [hq] at rq
    have qn : q < 0 := by omega
    rw [itoa_neg hn, itoa_neg qn, dec_big (by omega), e1, e2]; rfl
  · have qn : ¬ q < 0 := by
      have : 0 ≤ n.tdiv 10 := Int.tdiv_nonneg (by omega) (by omega)
      omega
    rw [itoa_pos (by omega), itoa_pos (by omega), dec_big (by omega), show n.toNat = n.natAbs by omega, show q.toNat = q.natAbs by omega, e1, e2]
theorem itoa_first {n : Int} {d : Nat} (h : n.natAbs = d) (hd : d < 10) : Lib.itoa n = (if n < 0 then [45] else []) ++ [UInt8.ofNat (48 + d)] := by
  by_cases hn : n < 0
  · rw [itoa_neg hn, if_pos hn, h, dec_small hd]; rfl
  · rw [itoa_pos (by omega), if_neg hn, show n.toNat = d by omega, dec_small hd]; rfl
end Go.Proofs.YtaaadejamjbcbaaDoor
