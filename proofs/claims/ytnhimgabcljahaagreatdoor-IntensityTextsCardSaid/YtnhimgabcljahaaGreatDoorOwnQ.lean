/- Regions that draw their order, only read, and call functions that leave what was there as it is: one walk in the order of the text, in the class of the worlds in which the call's own blocks are whole. -/
import Derived.Test.YtnhimgabcljahaaGreatDoorOwn
import Derived.Deep.QuietTactic
import Derived.BigQuiet
namespace Go.Proofs.YtnhimgabcljahaaGreatDoor
open Go.RowKit

/-- the worlds in which the blocks of L are whole, and what was there in w is as it was -/
structure OwnW (w : World) (L : List (Nat × TypeId × Array Value)) where
  W : World
  own : Own w W L
theorem wp_region_own {P : Program} {id : Nat} {Q : Exit → Act → World → Prop} {a : Act} {w W : World} {L : List (Nat × TypeId × Array Value)} {l : List Oper} (hm : P.follows .mixedOrders = true) (hB : Region.lexB .any l.toArray = true) (hX : Own w W L)
    (h : wpQuiet P l.toArray (fun W' => ∃ x : OwnW w L, W' = x.W) (fun a' => ∀ W', (∃ x : OwnW w L, W' = x.W) → Q .normal a' W') l a) : (Code.region id l.toArray true).wp P Q a W :=
  wp_region_quiet (C := fun W' => ∃ x : OwnW w L, W' = x.W) hm hB ⟨⟨W.drew, hX.drew⟩, rfl⟩ (by simpa using h)
theorem own_call {P : Program} {f : FuncId} {args : Array Value} {w : World} {L : List (Nat × TypeId × Array Value)} {v : Value} {x : OwnW w L}
    (h : Calls P f args x.W fun e w' => e = .returned v ∧ Below x.W.heap.size x.W w') : Calls P f args x.W fun e w'' => e = .returned v ∧ ∃ y : OwnW w L, w'' = y.W :=
  h.mono fun _ w' ⟨he, hb⟩ => ⟨he, ⟨w', x.own.to hb⟩, rfl⟩
theorem own_same {P : Program} {f : FuncId} {args : Array Value} {w : World} {L : List (Nat × TypeId × Array Value)} {v : Value} {x : OwnW w L}
    (h : Calls P f args x.W fun e w' => e = .returned v ∧ x.W = w') : Calls P f args x.W fun e w'' => e = .returned v ∧ ∃ y : OwnW w L, w'' = y.W :=
  h.mono fun _ _ ⟨he, hb⟩ => ⟨he, x, hb.symm⟩
end Go.Proofs.YtnhimgabcljahaaGreatDoor
