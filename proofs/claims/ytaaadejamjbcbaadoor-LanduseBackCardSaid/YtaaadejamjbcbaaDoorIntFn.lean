/- slices.IndexFunc and slices.ContainsFunc at integers, with a function that captures nothing and turns nothing; slices.Equal at integers. -/
import Derived.Test.YtaaadejamjbcbaaDoorOwn2
import Derived.Deep.QuietTactic
import Derived.BigQuiet
namespace Go.Proofs.YtaaadejamjbcbaaDoor
open Go.RowKit

def idxP (p : Int → Bool) (l : List Int) : Int := match l.findIdx? p with | some i => (i : Int) | none => -1
theorem idxP_no {p : Int → Bool} {l : List Int} (h : ∀ i (hi : i < l.length), p l[i] = false) : idxP p l = -1 := by
  have : l.findIdx? p = none := by
    rw [List.findIdx?_eq_none_iff]
    intro x hx
    obtain ⟨i, hi, rfl⟩ := List.mem_iff_getElem.1 hx
    exact h i hi
  simp [idxP, this]
theorem idxP_yes {p : Int → Bool} {l : List Int} {k : Nat} (hk : k < l.length) (h : ∀ i (hi : i < l.length), i < k → p l[i] = false) (hy : p l[k] = true) : idxP p l = k := by
  have : l.findIdx? p = some k := by
    rw [List.findIdx?_eq_some_iff_getElem]
    exact ⟨hk, hy, fun j hj => by rw [h j (by omega) hj]; simp⟩
  simp [idxP, this]
theorem any_idx (p : Int → Bool) (l : List Int) : l.any p = decide (0 ≤ idxP p l) := by
  unfold idxP
  cases h : l.findIdx? p with
  | none =>
    rw [List.findIdx?_eq_none_iff] at h
    rw [Bool.eq_iff_iff]
    simp only [List.any_eq_true, decide_eq_true_eq]
    constructor
    · rintro ⟨x, hx, hp⟩
      rw [h x hx] at hp
      cases hp
    · intro h'
      omega
  | some i =>
    rw [List.findIdx?_eq_some_iff_getElem] at h
    obtain ⟨hi, hp, _⟩ := h
    rw [Bool.eq_iff_iff]
    simp only [List.any_eq_true, decide_eq_true_eq]
    exact ⟨fun _ => by omega, fun _ => ⟨l[i], List.getElem_mem hi, hp⟩⟩

set_option maxHeartbeats 1000000 in
theorem idxfI_any (f : Nat) (p : Int → Bool) (hf : ∀ (d : Int) (w : World), Calls Tryd.prog f #[.int .i64 d] w fun e w' => e = .returned (.bool (p d)) ∧ w = w') (hc : ∀ (d : Int) (w : World), (callFunc f #[.int .i64 d]).run Tryd.prog w = .ok (.enter f #[.int .i64 d]) w) (l : List Int) (A : Option Addr) (cap : Nat) (w : World) (hl : IntSl w A l) :
    Calls Tryd.prog 29 #[.slice A l.length cap, .func (.func f) #[] #[]] w fun e w' => e = .returned (.int .i64 (idxP p l)) ∧ w = w' := by
  have hlen : l.length ≤ 9223372036854775807 := by have := hl.1.1; omega
  have H := hide hl
  have F := hide hf
  clear hl hf
  go_enter Tryd.func29, Tryd.ntmps29
  go_wp2
  go_loop [8] (fun v8 => ∃ k : Nat, k ≤ l.length ∧ v8 = .int .i64 k ∧ Hid (∀ i (hi : i < l.length), i < k → p l[i] = false)) (fun v8 => l.length - (intOf v8).toNat)
  case atStart => exact ⟨0, Nat.zero_le _, rfl, hide (fun _ _ h => by omega)⟩
  case round =>
    obtain ⟨k, hk, rfl, hno⟩ := hrel
    by_cases hlt : k < l.length
    · obtain ⟨b, off, rfl, hbl, hat⟩ := H.out.2 (by omega)
      have c0 := hat k hlt
      clear hat
      rcases Bool.eq_false_or_eq_true (p l[k]) with hs | hs
      · go_wp2_with fail
        refine (F.out l[k] _).mono ?_
        rintro e w' ⟨rfl, rfl⟩
        go_wp2
        go_ret
        exact ⟨ret_int (idxP_yes hlt (fun i hi hik => hno.out i hi hik) hs).symm, rfl⟩
      · go_wp2_with fail
        refine (F.out l[k] _).mono ?_
        rintro e w' ⟨rfl, rfl⟩
        go_wp2
        go_round
        case rel =>
          refine ⟨k + 1, by omega, by go_num, hide fun i hi hik => ?_⟩
          by_cases e : i = k
          · subst e; exact hs
          · exact hno.out i hi (by omega)
        case measure => simp [intOf]; omega
    · go_wp2
      go_ret
      exact ⟨ret_int (idxP_no fun i hi => hno.out i hi (by omega)).symm, rfl⟩
set_option maxHeartbeats 1000000 in
theorem contI_any (f : Nat) (p : Int → Bool) (hf : ∀ (d : Int) (w : World), Calls Tryd.prog f #[.int .i64 d] w fun e w' => e = .returned (.bool (p d)) ∧ w = w') (hc : ∀ (d : Int) (w : World), (callFunc f #[.int .i64 d]).run Tryd.prog w = .ok (.enter f #[.int .i64 d]) w) (l : List Int) (A : Option Addr) (cap : Nat) (w : World) (hl : IntSl w A l) :
    Calls Tryd.prog 12 #[.slice A l.length cap, .func (.func f) #[] #[]] w fun e w' => e = .returned (.bool (l.any p)) ∧ w = w' := by
  have F := hide hf
  have H := hide (any_idx p l)
  clear hf
  have HL := hide hl
  clear hl
  go_enter Tryd.func12, Tryd.ntmps12
  go_wp2_with fail
  refine (idxfI_any f p F.out hc l A cap _ HL.out).mono ?_
  rintro e w' ⟨rfl, rfl⟩
  go_wp2
  go_ret
  exact ⟨ret_bool H.out.symm, rfl⟩
theorem below_drewN {B : Nat} {a w : World} (h : Below B a w) (n : Nat) : Below B a (w.drewN n) := ⟨h.os, h.tape, h.output, h.size, h.block⟩
/-- two lists of integers are equal -/
def eqB (l m : List Int) : Bool := decide (l = m)
set_option maxHeartbeats 1000000 in
theorem equalI_any (l m : List Int) (A B : Option Addr) (cap cap' : Nat) (w : World) (hl : IntSl w A l) (hm : IntSl w B m) :
    Calls Tryd.prog 11 #[.slice A l.length cap, .slice B m.length cap'] w fun e w' => e = .returned (.bool (eqB l m)) ∧ Below w.heap.size w w' := by
  have hlen : l.length ≤ 9223372036854775807 := by have := hl.1.1; omega
  have hlen' : m.length ≤ 9223372036854775807 := by have := hm.1.1; omega
  have H := hide hl
  have H' := hide hm
  clear hl hm
  by_cases hn : l.length = m.length
  case neg =>
    have q : ((l.length : Int) == (m.length : Int)) = false := by simp; omega
    have q' : ((l.length : Int) != (m.length : Int)) = true := by simp; omega
    have hv : eqB l m = false := by simp only [eqB, decide_eq_false_iff_not]; intro e; exact hn (by rw [e])
    have HV := hide hv
    clear hn hv
    go_enter Tryd.func11, Tryd.ntmps11
    go_wp2
    go_ret
    exact ⟨ret_bool HV.out.symm, Below.refl _ _⟩
  have q : ((l.length : Int) == (m.length : Int)) = true := by simp; omega
  have q' : ((l.length : Int) != (m.length : Int)) = false := by simp; omega
  have HN := hide hn
  clear hn
  go_enter Tryd.func11, Tryd.ntmps11
  go_wp2
  go_loopw [13] (fun v wr => ∃ k : Nat, k ≤ l.length ∧ v = .int .i64 k ∧ Below w.heap.size w wr ∧ Hid (∀ i (h : i < l.length) (h' : i < m.length), i < k → l[i] = m[i])) (fun v _ => l.length - (intOf v).toNat)
  case atStart => exact ⟨0, Nat.zero_le _, rfl, Below.refl _ _, hide (fun _ _ _ h => by omega)⟩
  case round =>
    obtain ⟨k, hk, rfl, hb, hno⟩ := hrel
    by_cases hlt : k < l.length
    · have hlt' : k < m.length := by rw [← HN.out]; exact hlt
      obtain ⟨b, off, rfl, hbl, hat⟩ := (H.out.below hb).2 (by omega)
      obtain ⟨b', off', rfl, hbl', hat'⟩ := (H'.out.below hb).2 (by omega)
      have c0 := hat k hlt
      have c1 := hat' k hlt'
      have g0 : (0 : Int) ≤ (k : Int) := by omega
      have g1 : (k : Int) < (l.length : Int) := by omega
      have g2 : (k : Int) < (m.length : Int) := by omega
      clear hat hat' q q'
      have HB := hide hb
      clear hb
      by_cases e : l[k] = m[k]
      · have e1 : (l[k] == m[k]) = true := by simpa using e
        have e2 : (l[k] != m[k]) = false := by simpa using e
        have E := hide e
        clear e
        go_wp2
        go_quiet (fail)
        go_wp2
        go_roundw
        case rel =>
          refine ⟨k + 1, by omega, by go_num, below_drewN HB.out _, hide fun i h h' hik => ?_⟩
          by_cases e : i = k
          · subst e; exact E.out
          · exact hno.out i h h' (by omega)
        case measure => simp [intOf]; omega
      · have e1 : (l[k] == m[k]) = false := by simpa using e
        have e2 : (l[k] != m[k]) = true := by simpa using e
        have hv : eqB l m = false := by simp only [eqB, decide_eq_false_iff_not]; intro h; exact e (by simp only [h])
        have HV := hide hv
        clear e hv
        go_wp2
        go_quiet (fail)
        go_wp2
        go_ret
        exact ⟨ret_bool HV.out.symm, below_drewN HB.out _⟩
    · have hv : eqB l m = true := by
        simp only [eqB, decide_eq_true_eq]
        exact List.ext_getElem HN.out (fun i h h' => hno.out i h h' (by omega))
      have HV := hide hv
      have HB := hide hb
      clear hv hb q q'
      go_wp2
      go_ret
      exact ⟨ret_bool HV.out.symm, HB.out⟩
end Go.Proofs.YtaaadejamjbcbaaDoor
