/- A region whose operations are no calls of Go functions: what is known of its orders outside of a round holds in a round, too. -/
import Derived.Test.YtnhimgabcljahaaGreatDoorBase
import Derived.OrdersIn
import Derived.OrdersHeld
namespace Go.Proofs.YtnhimgabcljahaaGreatDoor
open Go Go.RowKit

/-- an operation that calls no Go function, and defers nothing -/
def Plain (P : Program) (o : Oper) : Prop :=
  (∀ c, o.op ≠ .defer c) ∧ (∀ (ρ : Operand → Value) w, o.about P w ρ = none) ∧
    ∀ (ρ : Operand → Value) w, (∃ v w', (execOp ρ o).run P w = .ok (.value v) w') ∨ (∃ w', (execOp ρ o).run P w = .ok .skip w') ∨ ∃ h w', (execOp ρ o).run P w = .halt h w'
def plainB (o : Oper) : Bool := match o.op with
  | .move _ | .assign _ | .alloc _ | .box _ _ | .build _ _ | .buildSlice _ _ _ | .load _ _ | .store _ _ _ | .binOp _ _ _ _ _ | .unOp _ _ _ | .slice _ _ _ _ _ | .indexAddr _ _ _ | .index _ _ _ | .extract _ _ | .field _ _ _ | .fieldAddr _ _ _ => true
  | .call c => match c.callee with | .builtin .append | .builtin .len => true | _ => false
  | _ => false
theorem val_run (P : Program) (s : Sem Value) (w : World) : (∃ v w', ((do pure (Next.value (← s)) : Sem Next).run P w = .ok (.value v) w')) ∨ (∃ w', ((do pure (Next.value (← s)) : Sem Next).run P w = .ok .skip w')) ∨ ∃ h w', ((do pure (Next.value (← s)) : Sem Next).run P w = .halt h w') := by
  rw [Sem.run_bind]
  cases h : s.run P w with
  | ok v w' => exact .inl ⟨v, w', rfl⟩
  | halt x w' => exact .inr (.inr ⟨x, w', rfl⟩)
theorem skip_run (P : Program) (s : Sem Unit) (w : World) : (∃ v w', ((do s; pure Next.skip : Sem Next).run P w = .ok (.value v) w')) ∨ (∃ w', ((do s; pure Next.skip : Sem Next).run P w = .ok .skip w')) ∨ ∃ h w', ((do s; pure Next.skip : Sem Next).run P w = .halt h w') := by
  rw [Sem.run_bind]
  cases h : s.run P w with
  | ok v w' => exact .inr (.inl ⟨w', rfl⟩)
  | halt x w' => exact .inr (.inr ⟨x, w', rfl⟩)
theorem plain_of (P : Program) {o : Oper} (h : plainB o = true) : Plain P o := by
  obtain ⟨dst, op, tp, ps, af, gd⟩ := o
  cases op
  case call c =>
    obtain ⟨callee, args, ats⟩ := c
    cases callee
    case builtin b =>
      cases b
      case append => exact ⟨(fun c h => by cases h), fun ρ w => rfl, fun ρ w => val_run P _ w⟩
      case len => exact ⟨(fun c h => by cases h), fun ρ w => rfl, fun ρ w => val_run P _ w⟩
      all_goals cases h
    all_goals cases h
  all_goals first
    | (cases h; done)
    | exact ⟨(fun c h => by cases h), fun ρ w => rfl, fun ρ w => .inl ⟨_, _, rfl⟩⟩
    | exact ⟨(fun c h => by cases h), fun ρ w => rfl, fun ρ w => val_run P _ w⟩
    | exact ⟨(fun c h => by cases h), fun ρ w => rfl, fun ρ w => skip_run P _ w⟩
variable {F : Fence} {n : Nat} {P : Program} {ops : Array Oper} {Q : Exit → Act → World → Prop} {md : Region.Mode} {S : World → Prop}
theorem wpOpIn_plain {i : Nat} {K K' : Act → World → Prop} {a : Act} {w : World} (hp : ∀ o, ops[i]? = some o → Plain P o) (hQ : ¬ LetsOut Q) (hK : ∀ a w, K a w → K' a w) (h : wpOp P ops Q i K a w) : wpOpIn F n P ops Q i K' a w := by
  unfold wpOp at h
  unfold wpOpIn
  cases ho : ops[i]? with
  | none => rw [ho] at h; exact hK _ _ h
  | some o =>
    rw [ho] at h
    obtain ⟨p1, p2, p3⟩ := hp o ho
    dsimp only at h ⊢
    split
    · rename_i hw
      rw [if_pos hw] at h
      rcases h with h | ⟨_, h⟩
      · refine ⟨fun f hf => (by rw [p2] at hf; cases hf), ?_⟩
        rw [Oper.semAt_eq _ _ _ p1]
        unfold Oper.wp at h
        rcases p3 a.eval w with ⟨v, w', e⟩ | ⟨w', e⟩ | ⟨x, w', e⟩
        · rw [e] at h ⊢; exact hK _ _ h
        · rw [e] at h ⊢; exact hK _ _ h
        · rw [e] at h ⊢
          cases x
          case panic v => exact h
          all_goals exact h.elim
      · exact absurd h hQ
    · rename_i hw
      rw [if_neg hw] at h
      exact ⟨fun f hf => (by rw [p2] at hf; cases hf), hK _ _ h⟩
/-- the orders of a region without calls: outside of a round, then in one -/
theorem wpAnyIn_of_held (hp : ∀ (i : Nat) o, ops[i]? = some o → Plain P o) (hQ : ¬ LetsOut Q) : ∀ (fuel : Nat) (listed : Array Bool) (a : Act) (w : World), wpAnyH P md ops Q S fuel listed a w → wpAnyIn F n P md ops Q fuel listed a w
  | 0, _, _, _, h => h
  | fuel + 1, _, _, _, h => ⟨h.1, fun i hi => wpOpIn_plain (hp i) hQ (fun a' w' h' => wpAnyIn_of_held hp hQ fuel _ a' w' h'.2) (h.2 i hi)⟩
theorem plain_list {l : List Oper} (h : l.all plainB = true) : ∀ (i : Nat) o, l.toArray[i]? = some o → Plain P o := fun i o ho => plain_of P (List.all_eq_true.1 h o (by
  rw [List.getElem?_toArray] at ho
  exact List.mem_of_getElem? ho))
theorem wpIn_region_heldR {id : Nat} {a : Act} {w : World} {l : List Oper} (hm : P.follows .mixedOrders = true) (hp : l.all plainB = true) (hQ : ¬ LetsOut Q) (hS : S w.drew)
    (h : S w.drew → wpAnyH P .any l.toArray Q S l.toArray.size (Array.replicate l.toArray.size false) a w.drew) : (Code.region id l.toArray true).wpIn F n P Q a w :=
  wpIn_region_any hm (wpAnyIn_of_held (plain_list hp) hQ _ _ _ _ (h hS))
end Go.Proofs.YtnhimgabcljahaaGreatDoor
