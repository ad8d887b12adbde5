/- A region whose last operations wait for all the others, outside of a round: a condition on the world is kept by the others alone. -/
import Derived.Test.YtnhimgabcljahaaGreatDoorHeldT
namespace Go.Proofs.YtnhimgabcljahaaGreatDoor
open Go Go.RowKit

theorem any_of_T {P : Program} {ops : Array Oper} {Q : Exit → Act → World → Prop} {md : Region.Mode} {S : World → Prop} {n : Nat} : ∀ (f : Nat) (m : Array Bool) (a : Act) (w : World), anyT P md ops Q S n f m a w → wpAny P md ops Q f m a w
  | 0, _, _, _, h => h
  | f + 1, _, _, _, h => ⟨h.1, fun i hi => wpOp_mono (fun a' w' h' => any_of_T f _ a' w' h'.2) (h.2 i hi)⟩
/-- the beginning, outside of a round -/
theorem wp_region_T {P : Program} {Q : Exit → Act → World → Prop} {S : World → Prop} {id : Nat} {a : Act} {w : World} {l : List Oper} (n : Nat) (hm : P.follows .mixedOrders = true)
    (h : HdT P .any l.toArray Q S n l.toArray.size (Array.replicate l.toArray.size false) a w.drew) : (Code.region id l.toArray true).wp P Q a w := by
  have inv : HeadInv .any l.toArray n (Array.replicate l.toArray.size false) :=
    ⟨by simp, fun j oj _ hl => (by rw [getD_replicate_false] at hl; cases hl), fun t _ ht => getD_in (by simpa using ht) (getD_replicate_false _ _)⟩
  exact wp_region_any hm (any_of_T _ _ _ _ (h inv))
end Go.Proofs.YtnhimgabcljahaaGreatDoor
