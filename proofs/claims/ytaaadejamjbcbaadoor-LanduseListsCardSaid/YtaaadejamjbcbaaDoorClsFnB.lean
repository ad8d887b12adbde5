/- slices.IndexFunc and slices.ContainsFunc at classes, with a function that captures nothing and turns nothing that was there. -/
import Derived.Test.YtaaadejamjbcbaaDoorCls
namespace Go.Proofs.YtaaadejamjbcbaaDoor
open Go.RowKit

def idxC (p : Cls → Bool) (l : List Cls) : Int := match l.findIdx? p with | some i => (i : Int) | none => -1
theorem idxC_no {p : Cls → Bool} {l : List Cls} (h : ∀ i (hi : i < l.length), p l[i] = false) : idxC p l = -1 := by
  have : l.findIdx? p = none := by
    rw [List.findIdx?_eq_none_iff]
    intro x hx
    obtain ⟨i, hi, rfl⟩ := List.mem_iff_getElem.1 hx
    exact h i hi
  simp [idxC, this]
theorem idxC_yes {p : Cls → Bool} {l : List Cls} {k : Nat} (hk : k < l.length) (h : ∀ i (hi : i < l.length), i < k → p l[i] = false) (hy : p l[k] = true) : idxC p l = k := by
  have : l.findIdx? p = some k := by
    rw [List.findIdx?_eq_some_iff_getElem]
    exact ⟨hk, hy, fun j hj => by rw [h j (by omega) hj]; simp⟩
  simp [idxC, this]
theorem any_idxC (p : Cls → Bool) (l : List Cls) : l.any p = decide (0 ≤ idxC p l) := by
  unfold idxC
  cases h : l.findIdx? p with
  | none =>
    rw [List.findIdx?_eq_none_iff] at h
    rw [Bool.eq_iff_iff]
    simp only [List.any_eq_true, decide_eq_true_eq]
    constructor
    · rintro ⟨x, hx, hp⟩
      rw [h x hx] at hp
      cases hp
    · intro h'
      omega
  | some i =>
    rw [List.findIdx?_eq_some_iff_getElem] at h
    obtain ⟨hi, hp, _⟩ := h
    rw [Bool.eq_iff_iff]
    simp only [List.any_eq_true, decide_eq_true_eq]
    exact ⟨fun _ => by omega, fun _ => ⟨l[i], List.getElem_mem hi, hp⟩⟩

set_option maxHeartbeats 1000000 in
theorem idxfCB_any (f : Nat) (p : Cls → Bool) (hf : ∀ (d : Cls) (w : World), d.nm.size ≤ maxLen → Calls Tryd.prog f #[d.val] w fun e w' => e = .returned (.bool (p d)) ∧ Below w.heap.size w w') (hc : ∀ (d : Cls) (w : World), (callFunc f #[d.val]).run Tryd.prog w = .ok (.enter f #[d.val]) w) (l : List Cls) (A : Option Addr) (cap : Nat) (w : World) (hl : ClsSl w A l) :
    Calls Tryd.prog 48 #[.slice A l.length cap, .func (.func f) #[] #[]] w fun e w' => e = .returned (.int .i64 (idxC p l)) ∧ Below w.heap.size w w' := by
  have hlen : l.length ≤ 9223372036854775807 := hl.1.1
  have H := hide hl
  have F := hide hf
  clear hl hf
  go_enter Tryd.func48, Tryd.ntmps48
  go_wp2
  go_loopw [8] (fun v8 wr => ∃ k : Nat, k ≤ l.length ∧ v8 = .int .i64 k ∧ Below w.heap.size w wr ∧ Hid (∀ i (hi : i < l.length), i < k → p l[i] = false)) (fun v8 _ => l.length - (intOf v8).toNat)
  case atStart => exact ⟨0, Nat.zero_le _, rfl, Below.refl _ _, hide (fun _ _ h => by omega)⟩
  case round =>
    obtain ⟨k, hk, rfl, hb, hno⟩ := hrel
    have HB := hide hb
    by_cases hlt : k < l.length
    · obtain ⟨b, off, rfl, hbl, hat⟩ := (H.out.below hb).2 (by omega)
      obtain ⟨c0, c1, c2, c3, c4⟩ := hat k hlt
      clear hat hb
      by_cases hs : p l[k] = true
      · go_wp2_with fail
        refine (F.out l[k] _ (H.out.1.2 k hlt)).mono ?_
        rintro e w' ⟨rfl, hb⟩
        rw [hs]
        go_wp2
        go_ret
        exact ⟨ret_int (idxC_yes hlt (fun i hi hik => hno.out i hi hik) hs).symm, below_via HB.out HB.out.size hb⟩
      · have hs : p l[k] = false := by simpa using hs
        go_wp2_with fail
        refine (F.out l[k] _ (H.out.1.2 k hlt)).mono ?_
        rintro e w' ⟨rfl, hb⟩
        rw [hs]
        go_wp2
        go_roundw
        case rel =>
          refine ⟨k + 1, by omega, by go_num, below_via HB.out HB.out.size hb, hide fun i hi hik => ?_⟩
          by_cases e : i = k
          · subst e; exact hs
          · exact hno.out i hi (by omega)
        case measure => simp [intOf]; omega
    · clear hb
      go_wp2
      go_ret
      exact ⟨ret_int (idxC_no fun i hi => hno.out i hi (by omega)).symm, HB.out⟩
set_option maxHeartbeats 1000000 in
theorem contCB_any (f : Nat) (p : Cls → Bool) (hf : ∀ (d : Cls) (w : World), d.nm.size ≤ maxLen → Calls Tryd.prog f #[d.val] w fun e w' => e = .returned (.bool (p d)) ∧ Below w.heap.size w w') (hc : ∀ (d : Cls) (w : World), (callFunc f #[d.val]).run Tryd.prog w = .ok (.enter f #[d.val]) w) (l : List Cls) (A : Option Addr) (cap : Nat) (w : World) (hl : ClsSl w A l) :
    Calls Tryd.prog 30 #[.slice A l.length cap, .func (.func f) #[] #[]] w fun e w' => e = .returned (.bool (l.any p)) ∧ Below w.heap.size w w' := by
  have F := hide hf
  have H := hide (any_idxC p l)
  clear hf
  have HL := hide hl
  clear hl
  go_enter Tryd.func30, Tryd.ntmps30
  go_wp2_with fail
  refine (idxfCB_any f p F.out hc l A cap _ HL.out).mono ?_
  rintro e w' ⟨rfl, hb⟩
  go_wp2
  go_ret
  exact ⟨ret_bool H.out.symm, hb⟩
end Go.Proofs.YtaaadejamjbcbaaDoor
