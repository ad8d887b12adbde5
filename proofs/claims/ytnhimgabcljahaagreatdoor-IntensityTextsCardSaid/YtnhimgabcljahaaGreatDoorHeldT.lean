/- A region without calls whose last operations wait for all the others: a condition on the world is kept by the others alone; also in a round. -/
import Derived.Test.YtnhimgabcljahaaGreatDoorAnyIn
import Derived.StillTail
namespace Go.Proofs.YtnhimgabcljahaaGreatDoor
open Go Go.RowKit

section
variable {P : Program} {ops : Array Oper} {Q : Exit → Act → World → Prop} {md : Region.Mode} {S : World → Prop} {n : Nat}
def anyT (P : Program) (md : Region.Mode) (ops : Array Oper) (Q : Exit → Act → World → Prop) (S : World → Prop) (n : Nat) : Nat → Array Bool → Act → World → Prop
  | 0, m, a, w => Region.ready md ops m = [] ∧ Q .normal a w
  | f + 1, m, a, w => (Region.ready md ops m = [] → Q .normal a w) ∧ ∀ i ∈ Region.ready md ops m, wpOp P ops Q i (fun a' w' => (i < n → S w') ∧ anyT P md ops Q S n f (m.setIfInBounds i true) a' w') a w
theorem anyIn_of_T {F : Fence} {k : Nat} (hp : ∀ (i : Nat) o, ops[i]? = some o → Plain P o) (hQ : ¬ LetsOut Q) : ∀ (f : Nat) (m : Array Bool) (a : Act) (w : World), anyT P md ops Q S n f m a w → wpAnyIn F k P md ops Q f m a w
  | 0, _, _, _, h => h
  | f + 1, _, _, _, h => ⟨h.1, fun i hi => wpOpIn_plain (hp i) hQ (fun a' w' h' => anyIn_of_T hp hQ f _ a' w' h'.2) (h.2 i hi)⟩
theorem anyT_first {i : Nat} {oi : Oper} {v : Value} (hi : ops[i]? = some oi) (hsel : Region.noSelect ops = true) (hsink : Region.sinkB md ops n = true) (hch : Region.chainB md ops n = true) (hn : n < ops.size) (hin : i < n)
    (hQ : ∀ c a w, Q (.panic c) (a.put oi.dst v) w → Q (.panic c) a w) :
    ∀ (f : Nat) (m : Array Bool) (a : Act) (w : World), HeadInv md ops n m →
      (∀ j oj, ops[j]? = some oj → j ≠ i → m.getD j true = false → (∀ e ∈ oj.after, Region.binds md e = true → e.on ≠ i) → oi.apart ops oj = true) →
      i ∈ Region.ready md ops m → YieldsIf P ops S oi v a → S w → anyT P md ops Q S n f (m.setIfInBounds i true) (a.put oi.dst v) w → anyT P md ops Q S n (f + 1) m a w := by
  have sel := Region.noSelect_spec hsel
  intro f
  induction f with
  | zero =>
    intro m a w _ _ hr hy hS H
    refine ⟨fun h => (by rw [h] at hr; cases hr), fun j hj => ?_⟩
    by_cases e : j = i
    · subst e; exact hy.wpOp hi hS ⟨fun _ => hS, H⟩
    · have := ready_mono hj e
      rw [H.1] at this
      cases this
  | succ f ih =>
    intro m a w inv hap hr hy hS H
    refine ⟨fun h => (by rw [h] at hr; cases hr), fun j hj => ?_⟩
    by_cases e : j = i
    · subst e; exact hy.wpOp hi hS ⟨fun _ => hS, H⟩
    · have hjn : j < n := Nat.lt_of_not_le fun h => tail_waits hsink hch hn inv _ i rfl hin (mem_ready.1 hr).1 j h hj
      obtain ⟨free, oj, hoj, hall⟩ := mem_ready.1 hj
      have hnot : ∀ e ∈ oj.after, Region.binds md e = true → e.on ≠ i := fun e he hb eq => by
        have q := hall e he hb
        have h0 := (mem_ready.1 hr).1
        rw [eq] at q
        rcases Nat.lt_or_ge i m.size with h' | h'
        · simp [h'] at h0 q; rw [h0] at q; cases q
        · simp [Array.getElem?_eq_none h'] at q
      have h2 := wpOp_putIf hoj (hap j oj hoj e free hnot) (fun cs b => sel i oi cs b hi) (fun cs b => sel j oj cs b hoj) hQ hy (H.2 j (ready_mono hj e))
      refine wpOp_mono (fun a' w' h3 => ⟨fun _ => h3.2.1 hjn, ih _ a' w' (inv.set hj hjn) (fun x ox hx hxi hxm hxe => ?_) (ready_mono hr (Ne.symm e)) h3.1 (h3.2.1 hjn) ?_⟩) h2
      · refine hap x ox hx hxi ?_ hxe
        by_cases ex : j = x
        · subst ex; exact free
        · rwa [getD_set_ne true ex] at hxm
      · rw [Array.setIfInBounds_comm _ _ e]; exact h3.2.2
/-- the walk's state: the head is told apart -/
def HdT (P : Program) (md : Region.Mode) (ops : Array Oper) (Q : Exit → Act → World → Prop) (S : World → Prop) (n f : Nat) (m : Array Bool) (a : Act) (w : World) : Prop := HeadInv md ops n m → anyT P md ops Q S n f m a w
variable {f : Nat} {m : Array Bool} {a : Act} {w : World}
/-- take one of the head first: what yields in every world that meets S -/
theorem HdT.take {i : Nat} {oi : Oper} {v : Value} {d : Option Tmp} (hk : (Region.noSelect ops && Region.sinkB md ops n && Region.chainB md ops n && decide (n < ops.size)) = true) (hi : ops[i]? = some oi) (hd : oi.dst = d) (hin : i < n) (hf : Region.free md ops m i = true) (hr : (Region.ready md ops m).contains i = true)
    (hQ : ∀ c a w, Q (.panic c) (a.put oi.dst v) w → Q (.panic c) a w) (hS : S w) (hy : YieldsIf P ops S oi v a) (h : HdT P md ops Q S n f (m.setIfInBounds i true) (a.put d v) w) : HdT P md ops Q S n (f + 1) m a w := fun inv => by
  subst hd
  simp only [Bool.and_eq_true, decide_eq_true_eq] at hk
  obtain ⟨⟨⟨hs, hk1⟩, hk2⟩, hk3⟩ := hk
  have hr' : i ∈ Region.ready md ops m := by simpa using hr
  exact anyT_first hi hs hk1 hk2 hk3 hin hQ f m a w inv (Region.free_spec hi hf) hr' hy hS (h (inv.set hr' hin))
theorem HdT.one {i : Nat} (hr : Region.ready md ops m = [i]) (hin : i < n) (h : wpOp P ops Q i (fun a' w' => S w' ∧ HdT P md ops Q S n f (m.setIfInBounds i true) a' w') a w) : HdT P md ops Q S n (f + 1) m a w := fun inv =>
  ⟨fun e => (by rw [hr] at e; cases e), fun j hj => by
    have hi : i ∈ Region.ready md ops m := by rw [hr]; simp
    rw [hr] at hj
    obtain rfl := List.mem_singleton.1 hj
    exact wpOp_mono (fun a' w' h' => ⟨fun _ => h'.1, h'.2 (inv.set hi hin)⟩) h⟩
theorem HdT.two {i j : Nat} (hr : Region.ready md ops m = [i, j]) (hin : i < n) (hjn : j < n) (h1 : wpOp P ops Q i (fun a' w' => S w' ∧ HdT P md ops Q S n f (m.setIfInBounds i true) a' w') a w)
    (h2 : wpOp P ops Q j (fun a' w' => S w' ∧ HdT P md ops Q S n f (m.setIfInBounds j true) a' w') a w) : HdT P md ops Q S n (f + 1) m a w := fun inv =>
  ⟨fun e => (by rw [hr] at e; cases e), fun k hk => by
    have hk' := hk
    rw [hr] at hk
    rcases List.mem_cons.1 hk with rfl | hk
    · exact wpOp_mono (fun a' w' h' => ⟨fun _ => h'.1, h'.2 (inv.set hk' hin)⟩) h1
    · obtain rfl := List.mem_singleton.1 hk
      exact wpOp_mono (fun a' w' h' => ⟨fun _ => h'.1, h'.2 (inv.set hk' hjn)⟩) h2⟩
/-- the last operations -/
theorem HdT.tail (h : anyT P md ops Q S n f m a w) : HdT P md ops Q S n f m a w := fun _ => h
theorem anyT.one {i : Nat} (hr : Region.ready md ops m = [i]) (hin : n ≤ i) (h : wpOp P ops Q i (fun a' w' => anyT P md ops Q S n f (m.setIfInBounds i true) a' w') a w) : anyT P md ops Q S n (f + 1) m a w :=
  ⟨fun e => (by rw [hr] at e; cases e), fun j hj => by
    rw [hr] at hj
    obtain rfl := List.mem_singleton.1 hj
    exact wpOp_mono (fun a' w' h' => ⟨fun h => absurd h (by omega), h'⟩) h⟩
theorem anyT.two {i j : Nat} (hr : Region.ready md ops m = [i, j]) (hin : n ≤ i) (hjn : n ≤ j) (h1 : wpOp P ops Q i (fun a' w' => anyT P md ops Q S n f (m.setIfInBounds i true) a' w') a w) (h2 : wpOp P ops Q j (fun a' w' => anyT P md ops Q S n f (m.setIfInBounds j true) a' w') a w) : anyT P md ops Q S n (f + 1) m a w :=
  ⟨fun e => (by rw [hr] at e; cases e), fun k hk => by
    rw [hr] at hk
    rcases List.mem_cons.1 hk with rfl | hk
    · exact wpOp_mono (fun a' w' h' => ⟨fun h => absurd h (by omega), h'⟩) h1
    · obtain rfl := List.mem_singleton.1 hk
      exact wpOp_mono (fun a' w' h' => ⟨fun h => absurd h (by omega), h'⟩) h2⟩
theorem anyT.done (hr : Region.ready md ops m = []) (h : Q .normal a w) : ∀ f, anyT P md ops Q S n f m a w
  | 0 => ⟨hr, h⟩
  | _ + 1 => ⟨fun _ => h, by rw [hr]; simp⟩
end
/-- the beginning, in a round as well -/
theorem wpIn_region_T {F : Fence} {k : Nat} {P : Program} {Q : Exit → Act → World → Prop} {S : World → Prop} {id : Nat} {a : Act} {w : World} {l : List Oper} (n : Nat) (hm : P.follows .mixedOrders = true) (hp : l.all plainB = true) (hQ : ¬ LetsOut Q)
    (h : HdT P .any l.toArray Q S n l.toArray.size (Array.replicate l.toArray.size false) a w.drew) : (Code.region id l.toArray true).wpIn F k P Q a w := by
  have inv : HeadInv .any l.toArray n (Array.replicate l.toArray.size false) :=
    ⟨by simp, fun j oj _ hl => (by rw [getD_replicate_false] at hl; cases hl), fun t _ ht => getD_in (by simpa using ht) (getD_replicate_false _ _)⟩
  exact wpIn_region_any hm (anyIn_of_T (plain_list hp) hQ _ _ _ _ (h inv))
end Go.Proofs.YtnhimgabcljahaaGreatDoor
