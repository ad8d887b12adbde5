/- strings.Builder as a call's own: what is written so far, and that the writers leave the rest as it was. -/
import Derived.Shelf.Strings.BuilderK
import Derived.Test.YtaaadejamjbcbaaDoorProg
import Derived.Test.YtaaadejamjbcbaaDoorTxW0
import Derived.Lib.OthersKept
namespace Go.Proofs.YtaaadejamjbcbaaDoor
open Go Go.RowKit

def blR : Go.Shelf.Ren := ⟨fun | 166 => 36 | 167 => 38 | 240 => 53 | 276 => 66 | 169 => 39 | n => n, fun | 3 => 3 | 4 => 4 | 5 => 5 | 9 => 9 | 20 => 20 | 37 => 63 | 70 => 62 | 72 => 65 | 75 => 67 | 164 => 99 | 80 => 72 | 127 => 90 | n => n, fun | n => n⟩
theorem blL166 : Go.Proofs.Lays.n166 Tryd.prog blR := {
  mixed := by kernel_rfl
  f166 := Tryd.func36.trans (congrArg some (by kernel_rfl))
  f240 := Tryd.func53.trans (congrArg some (by kernel_rfl))
  f276 := Tryd.func66.trans (congrArg some (by kernel_rfl))
  t0 := Tryd.underlying0
  a0 := Tryd.isAgg0
  z0 := Tryd.sizeOf0
  v0 := Tryd.zeroValue0
  t3 := Tryd.underlying3
  a3 := Tryd.isAgg3
  z3 := Tryd.sizeOf3
  v3 := Tryd.zeroValue3
  t4 := Tryd.underlying4
  a4 := Tryd.isAgg4
  z4 := Tryd.sizeOf4
  v4 := Tryd.zeroValue4
  t9 := Tryd.underlying9
  a9 := Tryd.isAgg9
  z9 := Tryd.sizeOf9
  v9 := Tryd.zeroValue9
  t20 := Tryd.underlying20
  a20 := Tryd.isAgg20
  z20 := Tryd.sizeOf20
  v20 := Tryd.zeroValue20
  t37 := Tryd.underlying63
  a37 := Tryd.isAgg63
  z37 := Tryd.sizeOf63
  v37 := Tryd.zeroValue63
  t70 := Tryd.underlying62
  a70 := Tryd.isAgg62
  z70 := Tryd.sizeOf62
  v70 := Tryd.zeroValue62
  t72 := Tryd.underlying65
  a72 := Tryd.isAgg65
  z72 := Tryd.sizeOf65
  v72 := Tryd.zeroValue65
  t75 := Tryd.underlying67
  a75 := Tryd.isAgg67
  z75 := Tryd.sizeOf67
  v75 := Tryd.zeroValue67
  t164 := Tryd.underlying99
  a164 := Tryd.isAgg99
  z164 := Tryd.sizeOf99
  v164 := Tryd.zeroValue99 }
theorem blL167 : Go.Proofs.Lays.n167 Tryd.prog blR := {
  mixed := by kernel_rfl
  f167 := Tryd.func38.trans (congrArg some (by kernel_rfl))
  f240 := Tryd.func53.trans (congrArg some (by kernel_rfl))
  f276 := Tryd.func66.trans (congrArg some (by kernel_rfl))
  t0 := Tryd.underlying0
  a0 := Tryd.isAgg0
  z0 := Tryd.sizeOf0
  v0 := Tryd.zeroValue0
  t4 := Tryd.underlying4
  a4 := Tryd.isAgg4
  z4 := Tryd.sizeOf4
  v4 := Tryd.zeroValue4
  t5 := Tryd.underlying5
  a5 := Tryd.isAgg5
  z5 := Tryd.sizeOf5
  v5 := Tryd.zeroValue5
  t9 := Tryd.underlying9
  a9 := Tryd.isAgg9
  z9 := Tryd.sizeOf9
  v9 := Tryd.zeroValue9
  t20 := Tryd.underlying20
  a20 := Tryd.isAgg20
  z20 := Tryd.sizeOf20
  v20 := Tryd.zeroValue20
  t37 := Tryd.underlying63
  a37 := Tryd.isAgg63
  z37 := Tryd.sizeOf63
  v37 := Tryd.zeroValue63
  t70 := Tryd.underlying62
  a70 := Tryd.isAgg62
  z70 := Tryd.sizeOf62
  v70 := Tryd.zeroValue62
  t72 := Tryd.underlying65
  a72 := Tryd.isAgg65
  z72 := Tryd.sizeOf65
  v72 := Tryd.zeroValue65
  t75 := Tryd.underlying67
  a75 := Tryd.isAgg67
  z75 := Tryd.sizeOf67
  v75 := Tryd.zeroValue67
  t164 := Tryd.underlying99
  a164 := Tryd.isAgg99
  z164 := Tryd.sizeOf99
  v164 := Tryd.zeroValue99 }
theorem blL169 : Go.Proofs.Lays.n169 Tryd.prog blR := {
  mixed := by kernel_rfl
  f169 := Tryd.func39.trans (congrArg some (by kernel_rfl))
  t0 := Tryd.underlying0
  a0 := Tryd.isAgg0
  z0 := Tryd.sizeOf0
  v0 := Tryd.zeroValue0
  t3 := Tryd.underlying3
  a3 := Tryd.isAgg3
  z3 := Tryd.sizeOf3
  v3 := Tryd.zeroValue3
  t9 := Tryd.underlying9
  a9 := Tryd.isAgg9
  z9 := Tryd.sizeOf9
  v9 := Tryd.zeroValue9
  t37 := Tryd.underlying63
  a37 := Tryd.isAgg63
  z37 := Tryd.sizeOf63
  v37 := Tryd.zeroValue63
  t70 := Tryd.underlying62
  a70 := Tryd.isAgg62
  z70 := Tryd.sizeOf62
  v70 := Tryd.zeroValue62
  t72 := Tryd.underlying65
  a72 := Tryd.isAgg65
  z72 := Tryd.sizeOf65
  v72 := Tryd.zeroValue65
  t127 := Tryd.underlying90
  a127 := Tryd.isAgg90
  z127 := Tryd.sizeOf90
  v127 := Tryd.zeroValue90 }
theorem blX : Builder.Extra Tryd.prog blR := {
  sizeBuilder := by kernel_rfl
  liesBuilder := by kernel_rfl
  t5 := Tryd.underlying5
  a5 := Tryd.isAgg5
  z5 := Tryd.sizeOf5
  v5 := Tryd.zeroValue5
  infoByte := by kernel_rfl
  cellsByte := by kernel_rfl
  sizeByte := by kernel_rfl
  neB5 := by decide }
end Go.Proofs.YtaaadejamjbcbaaDoor

namespace Go.Proofs.YtaaadejamjbcbaaDoor
open Go Go.RowKit

/-- the builder in block b holds acc; what was there in w0 is as it was -/
def BldW (w0 W : World) (b : Nat) (acc : List UInt8) : Prop :=
  Lib.IsBuilderF 65 5 w0.heap.size b (Lib.byteCells acc) W ∧ Below w0.heap.size w0 W
theorem BldW.start {w0 W : World} (h : Below w0.heap.size w0 W) : BldW w0 (W.alloc (.cells #[.pointer none, .slice none 0 0] 65)) W.heap.size [] := by
  refine ⟨?_, h.alloc h.size _⟩
  have := Lib.IsBuilderF.of (Lib.fresh_isBuilder 65 5 W)
  have mono : ∀ p, Lib.BuilderAtF 65 5 W.heap.size W.heap.size p [] (W.alloc (.cells #[.pointer none, .slice none 0 0] 65)) → Lib.BuilderAtF 65 5 w0.heap.size W.heap.size p [] (W.alloc (.cells #[.pointer none, .slice none 0 0] 65)) := by
    rintro p ⟨_, v, hb, ⟨ho1, ho2⟩, hn⟩
    refine ⟨h.size, v, hb, ⟨ho1, ?_⟩, hn⟩
    rcases ho2 with h' | ⟨g, cap, cur, fz, e, hg, r⟩
    · exact .inl h'
    · exact .inr ⟨g, cap, cur, fz, e, Nat.le_trans h.size hg, r⟩
  rcases this with h' | h'
  · exact .inl (mono _ h')
  · exact .inr (mono _ h')
theorem BldW.to {w0 W W' : World} {b : Nat} {acc : List UInt8} (h : BldW w0 W b acc) (hb : Below W.heap.size W W') : BldW w0 W' b acc := by
  refine ⟨?_, below_via h.2 h.2.size hb⟩
  have mono : ∀ p, Lib.BuilderAtF 65 5 w0.heap.size b p (Lib.byteCells acc) W → Lib.BuilderAtF 65 5 w0.heap.size b p (Lib.byteCells acc) W' := by
    rintro p ⟨hB, v, hbk, hown, hn⟩
    refine ⟨hB, v, (hb.block b (Array.getElem?_eq_some_iff.1 hbk).1).trans hbk, hown.kept (row := none) ⟨hb.os, hb.tape, hb.output, hb.size, fun i hi _ => hb.block i hi⟩ (by cases v.ownBlock <;> simp), hn⟩
  rcases h.1 with h' | h'
  · exact .inl (mono _ h')
  · exact .inr (mono _ h')
theorem BldW.alloc {w0 W : World} {b : Nat} {acc : List UInt8} (h : BldW w0 W b acc) (o : Obj) : BldW w0 (W.alloc o) b acc := h.to ((Below.refl _ _).alloc (Nat.le_refl _) o)
theorem BldW.drew {w0 W : World} {b : Nat} {acc : List UInt8} (h : BldW w0 W b acc) : BldW w0 W.drew b acc := h.to ((Below.refl W.heap.size W).drew)
theorem BldW.lt {w0 W : World} {b : Nat} {acc : List UInt8} (h : BldW w0 W b acc) : w0.heap.size ≤ b ∧ b < W.heap.size := by
  rcases h.1 with h' | h' <;> exact ⟨h'.1, h'.lt⟩
/-- what a writer leaves -/
def BlPost (w0 : World) (b : Nat) (acc : List UInt8) (v : Value) (W : World) (e : Ending) (W' : World) : Prop :=
  e = .returned v ∧ BldW w0 W' b acc ∧ Below w0.heap.size W W' ∧ Lib.OthersKept 5 (some b) W W'
theorem bws_any (w0 W : World) (b : Nat) (acc s : List UInt8) (h : BldW w0 W b acc) (hl : acc.length + s.length ≤ 140737488355328) :
    Calls Tryd.prog 36 #[.pointer (some ⟨b, 0, none⟩), strV s] W (BlPost w0 b (acc ++ s) (.tuple #[.int .i64 s.length, .nilIface]) W) := by
  have hs : (⟨s.toArray⟩ : ByteArray).size = s.length := by simp [ByteArray.size]
  refine (Any.Builder_WriteString_k blL166 blX w0.heap.size b (Lib.byteCells acc) ⟨s.toArray⟩ W h.1 (by rw [Lib.byteCells_length, hs]; exact hl) h.2.size).mono fun e W' ⟨he, hA, hb, hk⟩ => ?_
  rw [hs] at he
  refine ⟨he, ⟨.inr ?_, h.2.trans hb⟩, hb, hk⟩
  rw [Lib.byteCells_append, ← Lib.strCells_toArray s]
  exact hA
theorem bwb_any (w0 W : World) (b : Nat) (acc : List UInt8) (c : UInt8) (h : BldW w0 W b acc) (hl : acc.length + 1 ≤ 140737488355328) :
    Calls Tryd.prog 38 #[.pointer (some ⟨b, 0, none⟩), .int .u8 (c.toNat : Int)] W (BlPost w0 b (acc ++ [c]) .nilIface W) := by
  refine (Any.Builder_WriteByte_k blL167 blX w0.heap.size b (Lib.byteCells acc) (c.toNat : Int) W h.1 (by rw [Lib.byteCells_length]; exact hl) h.2.size).mono fun e W' ⟨he, hA, hb, hk⟩ => ?_
  refine ⟨he, ⟨.inr ?_, h.2.trans hb⟩, hb, hk⟩
  rw [Lib.byteCells_append]
  exact hA
theorem bst_any (w0 W : World) (b : Nat) (acc : List UInt8) (h : BldW w0 W b acc) :
    Calls Tryd.prog 39 #[.pointer (some ⟨b, 0, none⟩)] W (BlPost w0 b acc (strV acc) W) := by
  refine (Any.Builder_String_any_k blL169 blX w0.heap.size b acc W h.1 h.2.size).mono fun e W' ⟨he, hA, hb, hk⟩ => ?_
  exact ⟨he, ⟨hA, h.2.trans hb⟩, hb, hk⟩
/-- own blocks beside the builder -/
theorem Own.others {w W W' : World} {b : Nat} {L : List (Nat × TypeId × Array Value)} (h : Own w W L) (hb : Below w.heap.size W W') (hk : Lib.OthersKept 5 (some b) W W') (hn : ∀ x ∈ L, x.1 ≠ b ∧ x.2.1 ≠ 5) : Own w W' L :=
  ⟨h.1.trans hb, fun x hx => hk x.1 _ (h.2 x hx) (fun e => (hn x hx).1 (by injection e)) (fun c fz e => (hn x hx).2 (by injection e))⟩
end Go.Proofs.YtaaadejamjbcbaaDoor
