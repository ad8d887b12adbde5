/- slices.IndexFunc and slices.ContainsFunc at knots, nodes, links, and sections, with a function that leaves what was there as it is. (Printed by gen_ix.py.) -/
import Derived.Test.YtdcdfjinbieblaaGreatDoorPkCostsPipes16
import Derived.Test.YtdcdfjinbieblaaGreatDoorPkCostsPipes6
namespace Go.Proofs.YtdcdfjinbieblaaGreatDoor
open Go Go.RowKit

theorem any_ixB {α : Type} (p : α → Bool) (l : List α) : l.any p = decide (0 ≤ ixB p l) := by
  unfold ixB
  cases h : l.findIdx? p with
  | none =>
    rw [List.findIdx?_eq_none_iff] at h
    rw [Bool.eq_iff_iff]
    simp only [List.any_eq_true, decide_eq_true_eq]
    constructor
    · rintro ⟨x, hx, hp⟩
      rw [h x hx] at hp
      cases hp
    · intro h'
      omega
  | some i =>
    rw [List.findIdx?_eq_some_iff_getElem] at h
    obtain ⟨hi, hp, _⟩ := h
    rw [Bool.eq_iff_iff]
    simp only [List.any_eq_true, decide_eq_true_eq]
    exact ⟨fun _ => by omega, fun _ => ⟨l[i], List.getElem_mem hi, hp⟩⟩
def IvSl (w : World) (A : Option Addr) (l : List Int) : Prop :=
  l.length ≤ maxLen ∧ (0 < l.length → ∃ b off, A = some ⟨b, off, none⟩ ∧ b < w.heap.size ∧ ∀ i (h : i < l.length), w.cell? ⟨b, off + i, none⟩ = some (.int .i64 l[i]))
theorem IvSl.below {w w' : World} {A : Option Addr} {l : List Int} (h : IvSl w A l) (hb : Below w.heap.size w w') : IvSl w' A l :=
  ⟨h.1, fun hl => by obtain ⟨b, off, e, hlt, hat⟩ := h.2 hl; exact ⟨b, off, e, Nat.lt_of_lt_of_le hlt hb.size, fun i hi => (hb.cell (p := ⟨b, off + i, none⟩) hlt).trans (hat i hi)⟩⟩
theorem IvSl.one {W : World} {b : Nat} {t : TypeId} {x : Int} (h : Blk W b t #[.int .i64 x]) : IvSl W (some ⟨b, 0, none⟩) [x] :=
  ⟨by simp [maxLen], fun _ => ⟨b, 0, rfl, h.lt, fun i hi => by
    obtain rfl : i = 0 := by simp at hi; omega
    exact h.cell 0⟩⟩
theorem IvSl.two {W : World} {b : Nat} {t : TypeId} {x y : Int} (h : Blk W b t #[.int .i64 x, .int .i64 y]) : IvSl W (some ⟨b, 0, none⟩) [x, y] :=
  ⟨by simp [maxLen], fun _ => ⟨b, 0, rfl, h.lt, fun i hi => by
    obtain rfl | rfl : i = 0 ∨ i = 1 := by simp at hi; omega
    · exact h.cell 0
    · exact h.cell 1⟩⟩
set_option maxRecDepth 100000 in
set_option maxHeartbeats 2000000 in
theorem ixIn_any (f : Nat) (q : Int → Bool) (l : List Int) (A : Option Addr) (cap : Nat) (w : World) (hf : ∀ (d : Int) (W : World), Below w.heap.size w W → True → Calls Tryz.prog f #[.int .i64 d] W (RetW (.bool (q d)) W)) (hc : ∀ (d : Int) (w : World), (callFunc f #[.int .i64 d]).run Tryz.prog w = .ok (.enter f #[.int .i64 d]) w) (hl : IvSl w A l) :
    Calls Tryz.prog 144 #[.slice A l.length cap, .func (.func f) #[] #[]] w (RetW (.int .i64 (ixB q l)) w) := by
  have hlen : l.length ≤ 9223372036854775807 := by have := hl.1; unfold maxLen at this; omega
  have H := hide hl
  have CK := hide hf
  unfold RetW at CK
  clear hl hf
  go_enter Tryz.func144, Tryz.ntmps144
  go_wp2
  go_loopw [8] (fun v8 wr => ∃ k : Nat, k ≤ l.length ∧ v8 = .int .i64 k ∧ Hid (Below w.heap.size w wr) ∧ Hid (∀ i (hi : i < l.length), i < k → q l[i] = false)) (fun v8 _ => l.length - (intOf v8).toNat)
  case atStart => exact ⟨0, Nat.zero_le _, rfl, hide (Below.refl _ _), hide (fun _ _ h => by omega)⟩
  case round =>
    obtain ⟨k, hk, rfl, HW, hno⟩ := hrel
    by_cases hlt : k < l.length
    · obtain ⟨b, off, rfl, hbl, hat⟩ := (H.out.below HW.out).2 (by omega)
      have c0 := hat k hlt
      have CKk := hide (CK.out l[k] wr HW.out (trivial))
      clear hat
      by_cases hs : q l[k] = true
      · have E := hide (ixB_yes (p := q) hlt (fun i hi hik => hno.out i hi hik) hs)
        rw [hs] at CKk
        clear hs
        generalize l[k] = o at *
        go_wp2_with fail
        refine CKk.out.mono ?_
        rintro e w' ⟨rfl, hb⟩
        go_wp2
        go_ret
        exact ⟨ret_int E.out.symm, below_via HW.out HW.out.size hb⟩
      · have hs : q l[k] = false := by simpa using hs
        have hno2 := hide (fun i (hi : i < l.length) (hik : i < k + 1) => (show q l[i] = false by
          by_cases e : i = k
          · subst e; exact hs
          · exact hno.out i hi (by omega)))
        rw [hs] at CKk
        clear hs
        generalize l[k] = o at *
        go_wp2_with fail
        refine CKk.out.mono ?_
        rintro e w' ⟨rfl, hb⟩
        have HW2 := hide (below_via HW.out HW.out.size hb)
        clear hb
        go_wp2
        go_roundw
        case rel => exact ⟨k + 1, by omega, by go_num, HW2, hno2⟩
        case measure => simp [intOf]; omega
    · go_wp2
      go_ret
      exact ⟨ret_int (ixB_no fun i hi => hno.out i hi (by omega)).symm, HW.out⟩
set_option maxHeartbeats 1000000 in
theorem cfIn_any (f : Nat) (q : Int → Bool) (l : List Int) (A : Option Addr) (cap : Nat) (w : World) (hf : ∀ (d : Int) (W : World), Below w.heap.size w W → True → Calls Tryz.prog f #[.int .i64 d] W (RetW (.bool (q d)) W)) (hc : ∀ (d : Int) (w : World), (callFunc f #[.int .i64 d]).run Tryz.prog w = .ok (.enter f #[.int .i64 d]) w) (hl : IvSl w A l) :
    Calls Tryz.prog 118 #[.slice A l.length cap, .func (.func f) #[] #[]] w (RetW (.bool (l.any q)) w) := by
  have C := hide (ixIn_any f q l A cap w hf hc hl)
  have H := hide (any_ixB q l)
  generalize ixB q l = i at *
  unfold RetW at C
  clear hf hl
  go_enter Tryz.func118, Tryz.ntmps118
  go_wp2_with fail
  refine C.out.mono ?_
  rintro e w' ⟨rfl, hb⟩
  go_wp2
  go_ret
  exact ⟨ret_bool H.out.symm, hb⟩
set_option maxRecDepth 100000 in
set_option maxHeartbeats 2000000 in
theorem ixKn_any (f : Nat) (q : Knt → Bool) (l : List Knt) (A : Option Addr) (cap : Nat) (w : World) (hf : ∀ (d : Knt) (W : World), Below w.heap.size w W → True → Calls Tryz.prog f #[d.val] W (RetW (.bool (q d)) W)) (hc : ∀ (d : Knt) (w : World), (callFunc f #[d.val]).run Tryz.prog w = .ok (.enter f #[d.val]) w) (hl : KnSl w A l) :
    Calls Tryz.prog 136 #[.slice A l.length cap, .func (.func f) #[] #[]] w (RetW (.int .i64 (ixB q l)) w) := by
  have hlen : l.length ≤ 9223372036854775807 := by have := hl.1; unfold maxLen at this; omega
  have H := hide hl
  have CK := hide hf
  unfold RetW at CK
  clear hl hf
  go_enter Tryz.func136, Tryz.ntmps136
  go_wp2
  go_loopw [8] (fun v8 wr => ∃ k : Nat, k ≤ l.length ∧ v8 = .int .i64 k ∧ Hid (Below w.heap.size w wr) ∧ Hid (∀ i (hi : i < l.length), i < k → q l[i] = false)) (fun v8 _ => l.length - (intOf v8).toNat)
  case atStart => exact ⟨0, Nat.zero_le _, rfl, hide (Below.refl _ _), hide (fun _ _ h => by omega)⟩
  case round =>
    obtain ⟨k, hk, rfl, HW, hno⟩ := hrel
    by_cases hlt : k < l.length
    · obtain ⟨b, off, rfl, hbl, hat⟩ := (H.out.below HW.out).2 (by omega)
      obtain ⟨c0, c1⟩ := hat k hlt
      have CKk := hide (CK.out l[k] wr HW.out (trivial))
      clear hat
      by_cases hs : q l[k] = true
      · have E := hide (ixB_yes (p := q) hlt (fun i hi hik => hno.out i hi hik) hs)
        rw [hs] at CKk
        clear hs
        generalize l[k] = o at *
        go_wp2_with fail
        refine CKk.out.mono ?_
        rintro e w' ⟨rfl, hb⟩
        go_wp2
        go_ret
        exact ⟨ret_int E.out.symm, below_via HW.out HW.out.size hb⟩
      · have hs : q l[k] = false := by simpa using hs
        have hno2 := hide (fun i (hi : i < l.length) (hik : i < k + 1) => (show q l[i] = false by
          by_cases e : i = k
          · subst e; exact hs
          · exact hno.out i hi (by omega)))
        rw [hs] at CKk
        clear hs
        generalize l[k] = o at *
        go_wp2_with fail
        refine CKk.out.mono ?_
        rintro e w' ⟨rfl, hb⟩
        have HW2 := hide (below_via HW.out HW.out.size hb)
        clear hb
        go_wp2
        go_roundw
        case rel => exact ⟨k + 1, by omega, by go_num, HW2, hno2⟩
        case measure => simp [intOf]; omega
    · go_wp2
      go_ret
      exact ⟨ret_int (ixB_no fun i hi => hno.out i hi (by omega)).symm, HW.out⟩
set_option maxHeartbeats 1000000 in
theorem cfKn_any (f : Nat) (q : Knt → Bool) (l : List Knt) (A : Option Addr) (cap : Nat) (w : World) (hf : ∀ (d : Knt) (W : World), Below w.heap.size w W → True → Calls Tryz.prog f #[d.val] W (RetW (.bool (q d)) W)) (hc : ∀ (d : Knt) (w : World), (callFunc f #[d.val]).run Tryz.prog w = .ok (.enter f #[d.val]) w) (hl : KnSl w A l) :
    Calls Tryz.prog 94 #[.slice A l.length cap, .func (.func f) #[] #[]] w (RetW (.bool (l.any q)) w) := by
  have C := hide (ixKn_any f q l A cap w hf hc hl)
  have H := hide (any_ixB q l)
  generalize ixB q l = i at *
  unfold RetW at C
  clear hf hl
  go_enter Tryz.func94, Tryz.ntmps94
  go_wp2_with fail
  refine C.out.mono ?_
  rintro e w' ⟨rfl, hb⟩
  go_wp2
  go_ret
  exact ⟨ret_bool H.out.symm, hb⟩
set_option maxRecDepth 100000 in
set_option maxHeartbeats 2000000 in
theorem ixNd_any (f : Nat) (q : Nod → Bool) (l : List Nod) (A : Option Addr) (cap : Nat) (w : World) (hf : ∀ (d : Nod) (W : World), Below w.heap.size w W → d.nm.size ≤ maxLen ∧ KnSl W d.sh.A d.sh.l → Calls Tryz.prog f #[d.val] W (RetW (.bool (q d)) W)) (hc : ∀ (d : Nod) (w : World), (callFunc f #[d.val]).run Tryz.prog w = .ok (.enter f #[d.val]) w) (hl : NodSl w A l) :
    Calls Tryz.prog 47 #[.slice A l.length cap, .func (.func f) #[] #[]] w (RetW (.int .i64 (ixB q l)) w) := by
  have hlen : l.length ≤ 9223372036854775807 := by have := hl.1.1; unfold maxLen at this; omega
  have H := hide hl
  have CK := hide hf
  unfold RetW at CK
  clear hl hf
  go_enter Tryz.func47, Tryz.ntmps47
  go_wp2
  go_loopw [8] (fun v8 wr => ∃ k : Nat, k ≤ l.length ∧ v8 = .int .i64 k ∧ Hid (Below w.heap.size w wr) ∧ Hid (∀ i (hi : i < l.length), i < k → q l[i] = false)) (fun v8 _ => l.length - (intOf v8).toNat)
  case atStart => exact ⟨0, Nat.zero_le _, rfl, hide (Below.refl _ _), hide (fun _ _ h => by omega)⟩
  case round =>
    obtain ⟨k, hk, rfl, HW, hno⟩ := hrel
    by_cases hlt : k < l.length
    · obtain ⟨b, off, rfl, hbl, hat⟩ := (H.out.below HW.out).2 (by omega)
      obtain ⟨c0, c1, c2, c3, c4, c5, c6, c7, c8⟩ := hat k hlt
      have CKk := hide (CK.out l[k] wr HW.out ((H.out.below HW.out).1.2 k hlt))
      clear hat
      by_cases hs : q l[k] = true
      · have E := hide (ixB_yes (p := q) hlt (fun i hi hik => hno.out i hi hik) hs)
        rw [hs] at CKk
        clear hs
        generalize l[k] = o at *
        go_wp2_with fail
        refine CKk.out.mono ?_
        rintro e w' ⟨rfl, hb⟩
        go_wp2
        go_ret
        exact ⟨ret_int E.out.symm, below_via HW.out HW.out.size hb⟩
      · have hs : q l[k] = false := by simpa using hs
        have hno2 := hide (fun i (hi : i < l.length) (hik : i < k + 1) => (show q l[i] = false by
          by_cases e : i = k
          · subst e; exact hs
          · exact hno.out i hi (by omega)))
        rw [hs] at CKk
        clear hs
        generalize l[k] = o at *
        go_wp2_with fail
        refine CKk.out.mono ?_
        rintro e w' ⟨rfl, hb⟩
        have HW2 := hide (below_via HW.out HW.out.size hb)
        clear hb
        go_wp2
        go_roundw
        case rel => exact ⟨k + 1, by omega, by go_num, HW2, hno2⟩
        case measure => simp [intOf]; omega
    · go_wp2
      go_ret
      exact ⟨ret_int (ixB_no fun i hi => hno.out i hi (by omega)).symm, HW.out⟩
set_option maxHeartbeats 1000000 in
theorem cfNd_any (f : Nat) (q : Nod → Bool) (l : List Nod) (A : Option Addr) (cap : Nat) (w : World) (hf : ∀ (d : Nod) (W : World), Below w.heap.size w W → d.nm.size ≤ maxLen ∧ KnSl W d.sh.A d.sh.l → Calls Tryz.prog f #[d.val] W (RetW (.bool (q d)) W)) (hc : ∀ (d : Nod) (w : World), (callFunc f #[d.val]).run Tryz.prog w = .ok (.enter f #[d.val]) w) (hl : NodSl w A l) :
    Calls Tryz.prog 18 #[.slice A l.length cap, .func (.func f) #[] #[]] w (RetW (.bool (l.any q)) w) := by
  have C := hide (ixNd_any f q l A cap w hf hc hl)
  have H := hide (any_ixB q l)
  generalize ixB q l = i at *
  unfold RetW at C
  clear hf hl
  go_enter Tryz.func18, Tryz.ntmps18
  go_wp2_with fail
  refine C.out.mono ?_
  rintro e w' ⟨rfl, hb⟩
  go_wp2
  go_ret
  exact ⟨ret_bool H.out.symm, hb⟩
set_option maxRecDepth 100000 in
set_option maxHeartbeats 2000000 in
theorem ixNdx_any (f : Nat) (x : Value) (q : Nod → Bool) (l : List Nod) (A : Option Addr) (cap : Nat) (w : World) (hf : ∀ (d : Nod) (W : World), Below w.heap.size w W → d.nm.size ≤ maxLen ∧ KnSl W d.sh.A d.sh.l → Calls Tryz.prog f #[d.val, x] W (RetW (.bool (q d)) W)) (hc : ∀ (d : Nod) (w : World), (callFunc f #[d.val, x]).run Tryz.prog w = .ok (.enter f #[d.val, x]) w) (hl : NodSl w A l) :
    Calls Tryz.prog 47 #[.slice A l.length cap, .func (.func f) #[] #[x]] w (RetW (.int .i64 (ixB q l)) w) := by
  have hlen : l.length ≤ 9223372036854775807 := by have := hl.1.1; unfold maxLen at this; omega
  have H := hide hl
  have CK := hide hf
  unfold RetW at CK
  clear hl hf
  go_enter Tryz.func47, Tryz.ntmps47
  go_wp2
  go_loopw [8] (fun v8 wr => ∃ k : Nat, k ≤ l.length ∧ v8 = .int .i64 k ∧ Hid (Below w.heap.size w wr) ∧ Hid (∀ i (hi : i < l.length), i < k → q l[i] = false)) (fun v8 _ => l.length - (intOf v8).toNat)
  case atStart => exact ⟨0, Nat.zero_le _, rfl, hide (Below.refl _ _), hide (fun _ _ h => by omega)⟩
  case round =>
    obtain ⟨k, hk, rfl, HW, hno⟩ := hrel
    by_cases hlt : k < l.length
    · obtain ⟨b, off, rfl, hbl, hat⟩ := (H.out.below HW.out).2 (by omega)
      obtain ⟨c0, c1, c2, c3, c4, c5, c6, c7, c8⟩ := hat k hlt
      have CKk := hide (CK.out l[k] wr HW.out ((H.out.below HW.out).1.2 k hlt))
      clear hat
      by_cases hs : q l[k] = true
      · have E := hide (ixB_yes (p := q) hlt (fun i hi hik => hno.out i hi hik) hs)
        rw [hs] at CKk
        clear hs
        generalize l[k] = o at *
        go_wp2_with fail
        refine CKk.out.mono ?_
        rintro e w' ⟨rfl, hb⟩
        go_wp2
        go_ret
        exact ⟨ret_int E.out.symm, below_via HW.out HW.out.size hb⟩
      · have hs : q l[k] = false := by simpa using hs
        have hno2 := hide (fun i (hi : i < l.length) (hik : i < k + 1) => (show q l[i] = false by
          by_cases e : i = k
          · subst e; exact hs
          · exact hno.out i hi (by omega)))
        rw [hs] at CKk
        clear hs
        generalize l[k] = o at *
        go_wp2_with fail
        refine CKk.out.mono ?_
        rintro e w' ⟨rfl, hb⟩
        have HW2 := hide (below_via HW.out HW.out.size hb)
        clear hb
        go_wp2
        go_roundw
        case rel => exact ⟨k + 1, by omega, by go_num, HW2, hno2⟩
        case measure => simp [intOf]; omega
    · go_wp2
      go_ret
      exact ⟨ret_int (ixB_no fun i hi => hno.out i hi (by omega)).symm, HW.out⟩
set_option maxRecDepth 100000 in
set_option maxHeartbeats 2000000 in
theorem ixLk_any (f : Nat) (q : Lnk → Bool) (l : List Lnk) (A : Option Addr) (cap : Nat) (w : World) (hf : ∀ (d : Lnk) (W : World), Below w.heap.size w W → (d.nm.size ≤ maxLen ∧ d.fr.size ≤ maxLen ∧ d.tn.size ≤ maxLen ∧ d.se.size ≤ maxLen) ∧ KnSl W d.cu.A d.cu.l → Calls Tryz.prog f #[d.val] W (RetW (.bool (q d)) W)) (hc : ∀ (d : Lnk) (w : World), (callFunc f #[d.val]).run Tryz.prog w = .ok (.enter f #[d.val]) w) (hl : LnkSl w A l) :
    Calls Tryz.prog 48 #[.slice A l.length cap, .func (.func f) #[] #[]] w (RetW (.int .i64 (ixB q l)) w) := by
  have hlen : l.length ≤ 9223372036854775807 := by have := hl.1.1; unfold maxLen at this; omega
  have H := hide hl
  have CK := hide hf
  unfold RetW at CK
  clear hl hf
  go_enter Tryz.func48, Tryz.ntmps48
  go_wp2
  go_loopw [8] (fun v8 wr => ∃ k : Nat, k ≤ l.length ∧ v8 = .int .i64 k ∧ Hid (Below w.heap.size w wr) ∧ Hid (∀ i (hi : i < l.length), i < k → q l[i] = false)) (fun v8 _ => l.length - (intOf v8).toNat)
  case atStart => exact ⟨0, Nat.zero_le _, rfl, hide (Below.refl _ _), hide (fun _ _ h => by omega)⟩
  case round =>
    obtain ⟨k, hk, rfl, HW, hno⟩ := hrel
    by_cases hlt : k < l.length
    · obtain ⟨b, off, rfl, hbl, hat⟩ := (H.out.below HW.out).2 (by omega)
      obtain ⟨c0, c1, c2, c3, c4, c5, c6, c7, c8, c9, c10⟩ := hat k hlt
      have CKk := hide (CK.out l[k] wr HW.out ((H.out.below HW.out).1.2 k hlt))
      clear hat
      by_cases hs : q l[k] = true
      · have E := hide (ixB_yes (p := q) hlt (fun i hi hik => hno.out i hi hik) hs)
        rw [hs] at CKk
        clear hs
        generalize l[k] = o at *
        go_wp2_with fail
        refine CKk.out.mono ?_
        rintro e w' ⟨rfl, hb⟩
        go_wp2
        go_ret
        exact ⟨ret_int E.out.symm, below_via HW.out HW.out.size hb⟩
      · have hs : q l[k] = false := by simpa using hs
        have hno2 := hide (fun i (hi : i < l.length) (hik : i < k + 1) => (show q l[i] = false by
          by_cases e : i = k
          · subst e; exact hs
          · exact hno.out i hi (by omega)))
        rw [hs] at CKk
        clear hs
        generalize l[k] = o at *
        go_wp2_with fail
        refine CKk.out.mono ?_
        rintro e w' ⟨rfl, hb⟩
        have HW2 := hide (below_via HW.out HW.out.size hb)
        clear hb
        go_wp2
        go_roundw
        case rel => exact ⟨k + 1, by omega, by go_num, HW2, hno2⟩
        case measure => simp [intOf]; omega
    · go_wp2
      go_ret
      exact ⟨ret_int (ixB_no fun i hi => hno.out i hi (by omega)).symm, HW.out⟩
set_option maxHeartbeats 1000000 in
theorem cfLk_any (f : Nat) (q : Lnk → Bool) (l : List Lnk) (A : Option Addr) (cap : Nat) (w : World) (hf : ∀ (d : Lnk) (W : World), Below w.heap.size w W → (d.nm.size ≤ maxLen ∧ d.fr.size ≤ maxLen ∧ d.tn.size ≤ maxLen ∧ d.se.size ≤ maxLen) ∧ KnSl W d.cu.A d.cu.l → Calls Tryz.prog f #[d.val] W (RetW (.bool (q d)) W)) (hc : ∀ (d : Lnk) (w : World), (callFunc f #[d.val]).run Tryz.prog w = .ok (.enter f #[d.val]) w) (hl : LnkSl w A l) :
    Calls Tryz.prog 20 #[.slice A l.length cap, .func (.func f) #[] #[]] w (RetW (.bool (l.any q)) w) := by
  have C := hide (ixLk_any f q l A cap w hf hc hl)
  have H := hide (any_ixB q l)
  generalize ixB q l = i at *
  unfold RetW at C
  clear hf hl
  go_enter Tryz.func20, Tryz.ntmps20
  go_wp2_with fail
  refine C.out.mono ?_
  rintro e w' ⟨rfl, hb⟩
  go_wp2
  go_ret
  exact ⟨ret_bool H.out.symm, hb⟩
set_option maxRecDepth 100000 in
set_option maxHeartbeats 2000000 in
theorem ixLkx_any (f : Nat) (x : Value) (q : Lnk → Bool) (l : List Lnk) (A : Option Addr) (cap : Nat) (w : World) (hf : ∀ (d : Lnk) (W : World), Below w.heap.size w W → (d.nm.size ≤ maxLen ∧ d.fr.size ≤ maxLen ∧ d.tn.size ≤ maxLen ∧ d.se.size ≤ maxLen) ∧ KnSl W d.cu.A d.cu.l → Calls Tryz.prog f #[d.val, x] W (RetW (.bool (q d)) W)) (hc : ∀ (d : Lnk) (w : World), (callFunc f #[d.val, x]).run Tryz.prog w = .ok (.enter f #[d.val, x]) w) (hl : LnkSl w A l) :
    Calls Tryz.prog 48 #[.slice A l.length cap, .func (.func f) #[] #[x]] w (RetW (.int .i64 (ixB q l)) w) := by
  have hlen : l.length ≤ 9223372036854775807 := by have := hl.1.1; unfold maxLen at this; omega
  have H := hide hl
  have CK := hide hf
  unfold RetW at CK
  clear hl hf
  go_enter Tryz.func48, Tryz.ntmps48
  go_wp2
  go_loopw [8] (fun v8 wr => ∃ k : Nat, k ≤ l.length ∧ v8 = .int .i64 k ∧ Hid (Below w.heap.size w wr) ∧ Hid (∀ i (hi : i < l.length), i < k → q l[i] = false)) (fun v8 _ => l.length - (intOf v8).toNat)
  case atStart => exact ⟨0, Nat.zero_le _, rfl, hide (Below.refl _ _), hide (fun _ _ h => by omega)⟩
  case round =>
    obtain ⟨k, hk, rfl, HW, hno⟩ := hrel
    by_cases hlt : k < l.length
    · obtain ⟨b, off, rfl, hbl, hat⟩ := (H.out.below HW.out).2 (by omega)
      obtain ⟨c0, c1, c2, c3, c4, c5, c6, c7, c8, c9, c10⟩ := hat k hlt
      have CKk := hide (CK.out l[k] wr HW.out ((H.out.below HW.out).1.2 k hlt))
      clear hat
      by_cases hs : q l[k] = true
      · have E := hide (ixB_yes (p := q) hlt (fun i hi hik => hno.out i hi hik) hs)
        rw [hs] at CKk
        clear hs
        generalize l[k] = o at *
        go_wp2_with fail
        refine CKk.out.mono ?_
        rintro e w' ⟨rfl, hb⟩
        go_wp2
        go_ret
        exact ⟨ret_int E.out.symm, below_via HW.out HW.out.size hb⟩
      · have hs : q l[k] = false := by simpa using hs
        have hno2 := hide (fun i (hi : i < l.length) (hik : i < k + 1) => (show q l[i] = false by
          by_cases e : i = k
          · subst e; exact hs
          · exact hno.out i hi (by omega)))
        rw [hs] at CKk
        clear hs
        generalize l[k] = o at *
        go_wp2_with fail
        refine CKk.out.mono ?_
        rintro e w' ⟨rfl, hb⟩
        have HW2 := hide (below_via HW.out HW.out.size hb)
        clear hb
        go_wp2
        go_roundw
        case rel => exact ⟨k + 1, by omega, by go_num, HW2, hno2⟩
        case measure => simp [intOf]; omega
    · go_wp2
      go_ret
      exact ⟨ret_int (ixB_no fun i hi => hno.out i hi (by omega)).symm, HW.out⟩
set_option maxRecDepth 100000 in
set_option maxHeartbeats 2000000 in
theorem ixSe_any (f : Nat) (q : Sec → Bool) (l : List Sec) (A : Option Addr) (cap : Nat) (w : World) (hf : ∀ (d : Sec) (W : World), Below w.heap.size w W → d.nm.size ≤ maxLen ∧ KnSl W d.ar.A d.ar.l ∧ KnSl W d.cv.A d.cv.l → Calls Tryz.prog f #[d.val] W (RetW (.bool (q d)) W)) (hc : ∀ (d : Sec) (w : World), (callFunc f #[d.val]).run Tryz.prog w = .ok (.enter f #[d.val]) w) (hl : SecSl w A l) :
    Calls Tryz.prog 49 #[.slice A l.length cap, .func (.func f) #[] #[]] w (RetW (.int .i64 (ixB q l)) w) := by
  have hlen : l.length ≤ 9223372036854775807 := by have := hl.1.1; unfold maxLen at this; omega
  have H := hide hl
  have CK := hide hf
  unfold RetW at CK
  clear hl hf
  go_enter Tryz.func49, Tryz.ntmps49
  go_wp2
  go_loopw [8] (fun v8 wr => ∃ k : Nat, k ≤ l.length ∧ v8 = .int .i64 k ∧ Hid (Below w.heap.size w wr) ∧ Hid (∀ i (hi : i < l.length), i < k → q l[i] = false)) (fun v8 _ => l.length - (intOf v8).toNat)
  case atStart => exact ⟨0, Nat.zero_le _, rfl, hide (Below.refl _ _), hide (fun _ _ h => by omega)⟩
  case round =>
    obtain ⟨k, hk, rfl, HW, hno⟩ := hrel
    by_cases hlt : k < l.length
    · obtain ⟨b, off, rfl, hbl, hat⟩ := (H.out.below HW.out).2 (by omega)
      obtain ⟨c0, c1, c2, c3, c4⟩ := hat k hlt
      have CKk := hide (CK.out l[k] wr HW.out ((H.out.below HW.out).1.2 k hlt))
      clear hat
      by_cases hs : q l[k] = true
      · have E := hide (ixB_yes (p := q) hlt (fun i hi hik => hno.out i hi hik) hs)
        rw [hs] at CKk
        clear hs
        generalize l[k] = o at *
        go_wp2_with fail
        refine CKk.out.mono ?_
        rintro e w' ⟨rfl, hb⟩
        go_wp2
        go_ret
        exact ⟨ret_int E.out.symm, below_via HW.out HW.out.size hb⟩
      · have hs : q l[k] = false := by simpa using hs
        have hno2 := hide (fun i (hi : i < l.length) (hik : i < k + 1) => (show q l[i] = false by
          by_cases e : i = k
          · subst e; exact hs
          · exact hno.out i hi (by omega)))
        rw [hs] at CKk
        clear hs
        generalize l[k] = o at *
        go_wp2_with fail
        refine CKk.out.mono ?_
        rintro e w' ⟨rfl, hb⟩
        have HW2 := hide (below_via HW.out HW.out.size hb)
        clear hb
        go_wp2
        go_roundw
        case rel => exact ⟨k + 1, by omega, by go_num, HW2, hno2⟩
        case measure => simp [intOf]; omega
    · go_wp2
      go_ret
      exact ⟨ret_int (ixB_no fun i hi => hno.out i hi (by omega)).symm, HW.out⟩
set_option maxHeartbeats 1000000 in
theorem cfSe_any (f : Nat) (q : Sec → Bool) (l : List Sec) (A : Option Addr) (cap : Nat) (w : World) (hf : ∀ (d : Sec) (W : World), Below w.heap.size w W → d.nm.size ≤ maxLen ∧ KnSl W d.ar.A d.ar.l ∧ KnSl W d.cv.A d.cv.l → Calls Tryz.prog f #[d.val] W (RetW (.bool (q d)) W)) (hc : ∀ (d : Sec) (w : World), (callFunc f #[d.val]).run Tryz.prog w = .ok (.enter f #[d.val]) w) (hl : SecSl w A l) :
    Calls Tryz.prog 22 #[.slice A l.length cap, .func (.func f) #[] #[]] w (RetW (.bool (l.any q)) w) := by
  have C := hide (ixSe_any f q l A cap w hf hc hl)
  have H := hide (any_ixB q l)
  generalize ixB q l = i at *
  unfold RetW at C
  clear hf hl
  go_enter Tryz.func22, Tryz.ntmps22
  go_wp2_with fail
  refine C.out.mono ?_
  rintro e w' ⟨rfl, hb⟩
  go_wp2
  go_ret
  exact ⟨ret_bool H.out.symm, hb⟩
set_option maxRecDepth 100000 in
set_option maxHeartbeats 2000000 in
theorem ixSex_any (f : Nat) (x : Value) (q : Sec → Bool) (l : List Sec) (A : Option Addr) (cap : Nat) (w : World) (hf : ∀ (d : Sec) (W : World), Below w.heap.size w W → d.nm.size ≤ maxLen ∧ KnSl W d.ar.A d.ar.l ∧ KnSl W d.cv.A d.cv.l → Calls Tryz.prog f #[d.val, x] W (RetW (.bool (q d)) W)) (hc : ∀ (d : Sec) (w : World), (callFunc f #[d.val, x]).run Tryz.prog w = .ok (.enter f #[d.val, x]) w) (hl : SecSl w A l) :
    Calls Tryz.prog 49 #[.slice A l.length cap, .func (.func f) #[] #[x]] w (RetW (.int .i64 (ixB q l)) w) := by
  have hlen : l.length ≤ 9223372036854775807 := by have := hl.1.1; unfold maxLen at this; omega
  have H := hide hl
  have CK := hide hf
  unfold RetW at CK
  clear hl hf
  go_enter Tryz.func49, Tryz.ntmps49
  go_wp2
  go_loopw [8] (fun v8 wr => ∃ k : Nat, k ≤ l.length ∧ v8 = .int .i64 k ∧ Hid (Below w.heap.size w wr) ∧ Hid (∀ i (hi : i < l.length), i < k → q l[i] = false)) (fun v8 _ => l.length - (intOf v8).toNat)
  case atStart => exact ⟨0, Nat.zero_le _, rfl, hide (Below.refl _ _), hide (fun _ _ h => by omega)⟩
  case round =>
    obtain ⟨k, hk, rfl, HW, hno⟩ := hrel
    by_cases hlt : k < l.length
    · obtain ⟨b, off, rfl, hbl, hat⟩ := (H.out.below HW.out).2 (by omega)
      obtain ⟨c0, c1, c2, c3, c4⟩ := hat k hlt
      have CKk := hide (CK.out l[k] wr HW.out ((H.out.below HW.out).1.2 k hlt))
      clear hat
      by_cases hs : q l[k] = true
      · have E := hide (ixB_yes (p := q) hlt (fun i hi hik => hno.out i hi hik) hs)
        rw [hs] at CKk
        clear hs
        generalize l[k] = o at *
        go_wp2_with fail
        refine CKk.out.mono ?_
        rintro e w' ⟨rfl, hb⟩
        go_wp2
        go_ret
        exact ⟨ret_int E.out.symm, below_via HW.out HW.out.size hb⟩
      · have hs : q l[k] = false := by simpa using hs
        have hno2 := hide (fun i (hi : i < l.length) (hik : i < k + 1) => (show q l[i] = false by
          by_cases e : i = k
          · subst e; exact hs
          · exact hno.out i hi (by omega)))
        rw [hs] at CKk
        clear hs
        generalize l[k] = o at *
        go_wp2_with fail
        refine CKk.out.mono ?_
        rintro e w' ⟨rfl, hb⟩
        have HW2 := hide (below_via HW.out HW.out.size hb)
        clear hb
        go_wp2
        go_roundw
        case rel => exact ⟨k + 1, by omega, by go_num, HW2, hno2⟩
        case measure => simp [intOf]; omega
    · go_wp2
      go_ret
      exact ⟨ret_int (ixB_no fun i hi => hno.out i hi (by omega)).symm, HW.out⟩
end Go.Proofs.YtdcdfjinbieblaaGreatDoor
