/- slices.IndexFunc and slices.ContainsFunc at classes, with a function that captures nothing and turns nothing. -/
import Derived.Test.YtljaibbmceknfaaCls
import Derived.Test.YtljaibbmceknfaaOwn2
namespace Go.Proofs.Ytljaibbmceknfaa
open Go.RowKit

def idxC (p : Cls → Bool) (l : List Cls) : Int := match l.findIdx? p with | some i => (i : Int) | none => -1
theorem idxC_no {p : Cls → Bool} {l : List Cls} (h : ∀ i (hi : i < l.length), p l[i] = false) : idxC p l = -1 := by
  have : l.findIdx? p = none := by
    rw [List.findIdx?_eq_none_iff]
    intro x hx
    obtain ⟨i, hi, rfl⟩ := List.mem_iff_getElem.1 hx
    exact h i hi
  simp [idxC, this]
theorem idxC_yes {p : Cls → Bool} {l : List Cls} {k : Nat} (hk : k < l.length) (h : ∀ i (hi : i < l.length), i < k → p l[i] = false) (hy : p l[k] = true) : idxC p l = k := by
  have : l.findIdx? p = some k := by
    rw [List.findIdx?_eq_some_iff_getElem]
    exact ⟨hk, hy, fun j hj => by rw [h j (by omega) hj]; simp⟩
  simp [idxC, this]
theorem any_idxC (p : Cls → Bool) (l : List Cls) : l.any p = decide (0 ≤ idxC p l) := by
  unfold idxC
  cases h : l.findIdx? p with
  | none =>
    rw [List.findIdx?_eq_none_iff] at h
    rw [Bool.eq_iff_iff]
    simp only [List.any_eq_true, decide_eq_true_eq]
    constructor
    · rintro ⟨x, hx, hp⟩
      rw [h x hx] at hp
      cases hp
    · intro h'
      omega
  | some i =>
    rw [List.findIdx?_eq_some_iff_getElem] at h
    obtain ⟨hi, hp, _⟩ := h
    rw [Bool.eq_iff_iff]
    simp only [List.any_eq_true, decide_eq_true_eq]
    exact ⟨fun _ => by omega, fun _ => ⟨l[i], List.getElem_mem hi, hp⟩⟩

set_option maxHeartbeats 1000000 in
theorem idxfC_any (f : Nat) (p : Cls → Bool) (hf : ∀ (d : Cls) (w : World), d.nm.size ≤ maxLen → Calls Try.prog f #[d.val] w fun e w' => e = .returned (.bool (p d)) ∧ w = w') (hc : ∀ (d : Cls) (w : World), (callFunc f #[d.val]).run Try.prog w = .ok (.enter f #[d.val]) w) (l : List Cls) (A : Option Addr) (cap : Nat) (w : World) (hl : ClsSl w A l) :
    Calls Try.prog 48 #[.slice A l.length cap, .func (.func f) #[] #[]] w fun e w' => e = .returned (.int .i64 (idxC p l)) ∧ w = w' := by
  have hlen : l.length ≤ 9223372036854775807 := by have := hl.1.1; unfold maxLen at this; omega
  have H := hide hl
  have F := hide hf
  clear hl hf
  go_enter Try.func48, Try.ntmps48
  go_wp2
  go_loop [8] (fun v8 => ∃ k : Nat, k ≤ l.length ∧ v8 = .int .i64 k ∧ Hid (∀ i (hi : i < l.length), i < k → p l[i] = false)) (fun v8 => l.length - (intOf v8).toNat)
  case atStart => exact ⟨0, Nat.zero_le _, rfl, hide (fun _ _ h => by omega)⟩
  case round =>
    obtain ⟨k, hk, rfl, hno⟩ := hrel
    by_cases hlt : k < l.length
    · obtain ⟨b, off, rfl, hbl, hat⟩ := H.out.2 (by omega)
      obtain ⟨c0, c1, c2, c3, c4⟩ := hat k hlt
      clear hat
      rcases Bool.eq_false_or_eq_true (p l[k]) with hs | hs
      · go_wp2_with fail
        refine (F.out l[k] _ (H.out.1.2 k hlt)).mono ?_
        rintro e w' ⟨rfl, rfl⟩
        go_wp2
        go_ret
        exact ⟨ret_int (idxC_yes hlt (fun i hi hik => hno.out i hi hik) hs).symm, rfl⟩
      · go_wp2_with fail
        refine (F.out l[k] _ (H.out.1.2 k hlt)).mono ?_
        rintro e w' ⟨rfl, rfl⟩
        go_wp2
        go_round
        case rel =>
          refine ⟨k + 1, by omega, by go_num, hide fun i hi hik => ?_⟩
          by_cases e : i = k
          · subst e; exact hs
          · exact hno.out i hi (by omega)
        case measure => simp [intOf]; omega
    · go_wp2
      go_ret
      exact ⟨ret_int (idxC_no fun i hi => hno.out i hi (by omega)).symm, rfl⟩
set_option maxHeartbeats 1000000 in
theorem contC_any (f : Nat) (p : Cls → Bool) (hf : ∀ (d : Cls) (w : World), d.nm.size ≤ maxLen → Calls Try.prog f #[d.val] w fun e w' => e = .returned (.bool (p d)) ∧ w = w') (hc : ∀ (d : Cls) (w : World), (callFunc f #[d.val]).run Try.prog w = .ok (.enter f #[d.val]) w) (l : List Cls) (A : Option Addr) (cap : Nat) (w : World) (hl : ClsSl w A l) :
    Calls Try.prog 30 #[.slice A l.length cap, .func (.func f) #[] #[]] w fun e w' => e = .returned (.bool (l.any p)) ∧ w = w' := by
  have F := hide hf
  have H := hide (any_idxC p l)
  clear hf
  have HL := hide hl
  clear hl
  go_enter Try.func30, Try.ntmps30
  go_wp2_with fail
  refine (idxfC_any f p F.out hc l A cap _ HL.out).mono ?_
  rintro e w' ⟨rfl, rfl⟩
  go_wp2
  go_ret
  exact ⟨ret_bool H.out.symm, rfl⟩
end Go.Proofs.Ytljaibbmceknfaa
