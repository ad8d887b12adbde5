/- Texts: values of lists of bytes; the table of powers of ten is kept. -/
import Derived.Test.YtnhimgabcljahaaGreatDoorDecP
import Derived.Test.YtnhimgabcljahaaGreatDoorOwn
import Derived.Test.YtnhimgabcljahaaGreatDoorShelf3
import Derived.Lib.AppendIntMem
import Derived.Shelf.Vars
namespace Go.Proofs.YtnhimgabcljahaaGreatDoor
open Go Go.RowKit

abbrev strV (l : List UInt8) : Value := .string ⟨l.toArray⟩
theorem strV_data (s : ByteArray) : strV s.data.toList = .string s := by cases s; rfl
theorem strV_inj {a b : List UInt8} (h : strV a = strV b) : a = b := by
  injection h with h
  injection h with h
  simpa using h
theorem ba_append (a b : List UInt8) : (⟨a.toArray⟩ : ByteArray) ++ ⟨b.toArray⟩ = ⟨(a ++ b).toArray⟩ := by
  apply ByteArray.ext
  rw [ByteArray.data_append]
  simp
theorem tab_below {w w' : World} (h : Lib.TabIs Tryz.prog w "internal/strconv.uint64pow10" .u64 Lib.pow10Tab) (hb : Below w.heap.size w w') : Lib.TabIs Tryz.prog w' "internal/strconv.uint64pow10" .u64 Lib.pow10Tab := by
  unfold Lib.TabIs World.var? at *
  cases hg : (Tryz.prog).globalNamed "internal/strconv.uint64pow10" with
  | none => simp [hg] at h
  | some g =>
    simp only [hg, Option.bind_some] at h ⊢
    have hlt : g < w.heap.size := by
      rcases Nat.lt_or_ge g w.heap.size with h' | h'
      · exact h'
      · rw [Array.getElem?_eq_none h'] at h; simp at h
    rw [hb.block g hlt]
    exact h
def RetV (v : Value) (w : World) (e : Ending) (w' : World) : Prop := e = .returned v ∧ Below w.heap.size w w'
end Go.Proofs.YtnhimgabcljahaaGreatDoor
