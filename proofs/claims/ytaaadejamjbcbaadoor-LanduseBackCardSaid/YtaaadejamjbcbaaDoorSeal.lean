/- The program's Find and Sealed, the reference's Sealed, and long of chapter 15: what each returns; nothing that was there is turned. -/
import Derived.Test.YtaaadejamjbcbaaDoorCls
import Derived.Test.YtaaadejamjbcbaaDoorClsRef
import Derived.Test.YtaaadejamjbcbaaDoorIntFn
import Derived.Test.YtaaadejamjbcbaaDoorOwn3
import Derived.Test.YtaaadejamjbcbaaDoorShelf4
namespace Go.Proofs.YtaaadejamjbcbaaDoor
open Go.RowKit

def idxC (p : Cls → Bool) (l : List Cls) : Int := match l.findIdx? p with | some i => (i : Int) | none => -1
theorem idxC_no {p : Cls → Bool} {l : List Cls} (h : ∀ i (hi : i < l.length), p l[i] = false) : idxC p l = -1 := by
  have : l.findIdx? p = none := by
    rw [List.findIdx?_eq_none_iff]
    intro x hx
    obtain ⟨i, hi, rfl⟩ := List.mem_iff_getElem.1 hx
    exact h i hi
  simp [idxC, this]
theorem idxC_yes {p : Cls → Bool} {l : List Cls} {k : Nat} (hk : k < l.length) (h : ∀ i (hi : i < l.length), i < k → p l[i] = false) (hy : p l[k] = true) : idxC p l = k := by
  have : l.findIdx? p = some k := by
    rw [List.findIdx?_eq_some_iff_getElem]
    exact ⟨hk, hy, fun j hj => by rw [h j (by omega) hj]; simp⟩
  simp [idxC, this]
theorem any_idxC (p : Cls → Bool) (l : List Cls) : l.any p = decide (0 ≤ idxC p l) := by
  unfold idxC
  cases h : l.findIdx? p with
  | none =>
    rw [List.findIdx?_eq_none_iff] at h
    rw [Bool.eq_iff_iff]
    simp only [List.any_eq_true, decide_eq_true_eq]
    constructor
    · rintro ⟨x, hx, hp⟩
      rw [h x hx] at hp
      cases hp
    · intro h'
      omega
  | some i =>
    rw [List.findIdx?_eq_some_iff_getElem] at h
    obtain ⟨hi, hp, _⟩ := h
    rw [Bool.eq_iff_iff]
    simp only [List.any_eq_true, decide_eq_true_eq]
    exact ⟨fun _ => by omega, fun _ => ⟨l[i], List.getElem_mem hi, hp⟩⟩

set_option maxHeartbeats 1000000 in
theorem idxfCB_any (f : Nat) (p : Cls → Bool) (hf : ∀ (d : Cls) (w : World), d.nm.size ≤ maxLen → Calls Tryd.prog f #[d.val] w fun e w' => e = .returned (.bool (p d)) ∧ Below w.heap.size w w') (hc : ∀ (d : Cls) (w : World), (callFunc f #[d.val]).run Tryd.prog w = .ok (.enter f #[d.val]) w) (l : List Cls) (A : Option Addr) (cap : Nat) (w : World) (hl : ClsSl w A l) :
    Calls Tryd.prog 48 #[.slice A l.length cap, .func (.func f) #[] #[]] w fun e w' => e = .returned (.int .i64 (idxC p l)) ∧ Below w.heap.size w w' := by
  have hlen : l.length ≤ 9223372036854775807 := hl.1.1
  have H := hide hl
  have F := hide hf
  clear hl hf
  go_enter Tryd.func48, Tryd.ntmps48
  go_wp2
  go_loopw [8] (fun v8 wr => ∃ k : Nat, k ≤ l.length ∧ v8 = .int .i64 k ∧ Below w.heap.size w wr ∧ Hid (∀ i (hi : i < l.length), i < k → p l[i] = false)) (fun v8 _ => l.length - (intOf v8).toNat)
  case atStart => exact ⟨0, Nat.zero_le _, rfl, Below.refl _ _, hide (fun _ _ h => by omega)⟩
  case round =>
    obtain ⟨k, hk, rfl, hb, hno⟩ := hrel
    have HB := hide hb
    by_cases hlt : k < l.length
    · obtain ⟨b, off, rfl, hbl, hat⟩ := (H.out.below hb).2 (by omega)
      obtain ⟨c0, c1, c2, c3, c4⟩ := hat k hlt
      clear hat hb
      by_cases hs : p l[k] = true
      · go_wp2_with fail
        refine (F.out l[k] _ (H.out.1.2 k hlt)).mono ?_
        rintro e w' ⟨rfl, hb⟩
        rw [hs]
        go_wp2
        go_ret
        exact ⟨ret_int (idxC_yes hlt (fun i hi hik => hno.out i hi hik) hs).symm, below_via HB.out HB.out.size hb⟩
      · have hs : p l[k] = false := by simpa using hs
        go_wp2_with fail
        refine (F.out l[k] _ (H.out.1.2 k hlt)).mono ?_
        rintro e w' ⟨rfl, hb⟩
        rw [hs]
        go_wp2
        go_roundw
        case rel =>
          refine ⟨k + 1, by omega, by go_num, below_via HB.out HB.out.size hb, hide fun i hi hik => ?_⟩
          by_cases e : i = k
          · subst e; exact hs
          · exact hno.out i hi (by omega)
        case measure => simp [intOf]; omega
    · clear hb
      go_wp2
      go_ret
      exact ⟨ret_int (idxC_no fun i hi => hno.out i hi (by omega)).symm, HB.out⟩
set_option maxHeartbeats 1000000 in
theorem contCB_any (f : Nat) (p : Cls → Bool) (hf : ∀ (d : Cls) (w : World), d.nm.size ≤ maxLen → Calls Tryd.prog f #[d.val] w fun e w' => e = .returned (.bool (p d)) ∧ Below w.heap.size w w') (hc : ∀ (d : Cls) (w : World), (callFunc f #[d.val]).run Tryd.prog w = .ok (.enter f #[d.val]) w) (l : List Cls) (A : Option Addr) (cap : Nat) (w : World) (hl : ClsSl w A l) :
    Calls Tryd.prog 30 #[.slice A l.length cap, .func (.func f) #[] #[]] w fun e w' => e = .returned (.bool (l.any p)) ∧ Below w.heap.size w w' := by
  have F := hide hf
  have H := hide (any_idxC p l)
  clear hf
  have HL := hide hl
  clear hl
  go_enter Tryd.func30, Tryd.ntmps30
  go_wp2_with fail
  refine (idxfCB_any f p F.out hc l A cap _ HL.out).mono ?_
  rintro e w' ⟨rfl, hb⟩
  go_wp2
  go_ret
  exact ⟨ret_bool H.out.symm, hb⟩
end Go.Proofs.YtaaadejamjbcbaaDoor

namespace Go.Proofs.YtaaadejamjbcbaaDoor
open Go Go.RowKit

def longB (l : List Cls) : Bool := decide (20 < l.length) || l.any fun c => decide (60 < c.nm.size)
set_option maxHeartbeats 400000 in
theorem longf_any (c : Cls) (w : World) (_ : c.nm.size ≤ maxLen) : Calls Tryd.prog 31 #[c.val] w fun e w' => e = .returned (.bool (decide (60 < c.nm.size))) ∧ Below w.heap.size w w' := by
  have X := (Own.start w).alloc #[.string c.nm, .int .i64 c.se, .int .i64 c.we, .int .i64 c.ro, .int .i64 c.dr] 54
  have hr := X.r1
  go_enter Tryd.func31, Tryd.ntmps31
  go_wp2
  go_ret
  exact ⟨ret_bool (by simp only [decide_eq_decide]; omega), X.1⟩
set_option maxHeartbeats 400000 in
theorem long_any (l : List Cls) (A : Option Addr) (cap : Nat) (w : World) (hl : ClsSl w A l) : Calls Tryd.prog 14 #[.slice A l.length cap] w fun e w' => e = .returned (.bool (longB l)) ∧ Below w.heap.size w w' := by
  have C := hide (contCB_any 31 (fun c => decide (60 < c.nm.size)) longf_any (fun d w => enters_of Tryd.func31 (by kernel_rfl) rfl _ w) l A cap w hl)
  have hlen : l.length ≤ maxLen := hl.1.1
  unfold maxLen at hlen
  have E : Hid (longB l = (decide (20 < l.length) || l.any fun c => decide (60 < c.nm.size))) := hide rfl
  generalize (l.any fun c => decide (60 < c.nm.size)) = b at *
  generalize longB l = lb at *
  clear hl
  by_cases h : 20 < l.length
  · have q : decide ((20 : Int) < (l.length : Int)) = true := decide_eq_true (by omega)
    have E2 : Hid (lb = true) := hide (by rw [E.out]; simp [h])
    clear E
    go_enter Tryd.func14, Tryd.ntmps14
    go_wp2
    go_ret
    exact ⟨ret_bool E2.out.symm, Below.refl _ _⟩
  · have q : decide ((20 : Int) < (l.length : Int)) = false := decide_eq_false (by omega)
    have E2 : Hid (lb = b) := hide (by rw [E.out]; simp [h])
    clear E
    go_enter Tryd.func14, Tryd.ntmps14
    go_wp2_with fail
    refine C.out.mono ?_
    rintro e w' ⟨rfl, hb⟩
    go_wp2
    go_ret
    exact ⟨ret_bool (by simp [E2.out]), hb⟩
/-- Find -/
def fiI (l : List Cls) (nm : ByteArray) : Int := if validB l = false then 0 else if findI l nm < 0 then 0 else findI l nm
def fiE (l : List Cls) (nm : ByteArray) : Int := if validB l = false then 1 else if findI l nm < 0 then 9 else 0
set_option maxRecDepth 100000 in
set_option maxHeartbeats 1000000 in
theorem find_any (l : List Cls) (A : Option Addr) (cap : Nat) (nm : ByteArray) (w : World) (hl : ClsSl w A l) :
    Calls Tryd.prog 15 #[.slice A l.length cap, .string nm] w fun e w' => e = .returned (.tuple #[.int .i64 (fiI l nm), .int .i64 (fiE l nm)]) ∧ Below w.heap.size w w' := by
  have X := Own.start w
  have H := hide hl
  have V := hide (fun W h => luvalid_any l A cap W h)
  have I := hide (fun W h => index_any l A cap nm W h)
  have bd := findI_bd l nm
  have hlen : l.length ≤ maxLen := hl.1.1
  unfold maxLen at hlen
  have E : Hid (fiI l nm = (if validB l = false then 0 else if findI l nm < 0 then 0 else findI l nm) ∧ fiE l nm = (if validB l = false then 1 else if findI l nm < 0 then 9 else 0)) := hide ⟨rfl, rfl⟩
  clear hl
  generalize findI l nm = k at *
  generalize fiI l nm = a at *
  generalize fiE l nm = b at *
  rcases Bool.eq_false_or_eq_true (validB l) with hv | hv
  · rw [hv] at V E
    by_cases hk : k < 0
    · have q : decide (k < 0) = true := decide_eq_true hk
      have E2 : Hid (a = 0 ∧ b = 9) := hide ⟨by rw [E.out.1]; simp [hk], by rw [E.out.2]; simp [hk]⟩
      clear E hk bd
      go_enter Tryd.func15, Tryd.ntmps15
      go_wp2_with fail
      refine (V.out _ H.out).mono ?_
      rintro e w1 ⟨rfl, hb⟩
      replace X := X.to hb
      replace H := hide (H.out.below hb)
      clear hb
      go_wp2_with fail
      refine (I.out _ H.out).mono ?_
      rintro e w2 ⟨rfl, hb⟩
      replace X := X.to hb
      clear hb
      go_wp2
      go_ret2
      exact ⟨by rw [E2.out.1, E2.out.2]; rfl, X.1⟩
    · have q : decide (k < 0) = false := decide_eq_false hk
      have E2 : Hid (a = k ∧ b = 0) := hide ⟨by rw [E.out.1]; simp [hk], by rw [E.out.2]; simp [hk]⟩
      clear E hk bd
      go_enter Tryd.func15, Tryd.ntmps15
      go_wp2_with fail
      refine (V.out _ H.out).mono ?_
      rintro e w1 ⟨rfl, hb⟩
      replace X := X.to hb
      replace H := hide (H.out.below hb)
      clear hb
      go_wp2_with fail
      refine (I.out _ H.out).mono ?_
      rintro e w2 ⟨rfl, hb⟩
      replace X := X.to hb
      clear hb
      go_wp2
      go_ret2
      exact ⟨by rw [E2.out.1, E2.out.2]; rfl, X.1⟩
  · rw [hv] at V E
    have E2 : Hid (a = 0 ∧ b = 1) := hide ⟨by rw [E.out.1]; simp, by rw [E.out.2]; simp⟩
    clear E
    go_enter Tryd.func15, Tryd.ntmps15
    go_wp2_with fail
    refine (V.out _ H.out).mono ?_
    rintro e w1 ⟨rfl, hb⟩
    replace X := X.to hb
    clear hb
    go_wp2
    go_ret2
    exact ⟨by rw [E2.out.1, E2.out.2]; rfl, X.1⟩
/-- what is sealed of the first areas, and what is not -/
def seAt (l : List Cls) (i : Nat) : Int := match l[i]? with | some c => c.se | none => 0
def seY (l : List Cls) (ar : List Int) : Nat → Int | 0 => 0 | k + 1 => seY l ar k + ar.getD k 0 * seAt l k
def seN (l : List Cls) (ar : List Int) : Nat → Int | 0 => 0 | k + 1 => seN l ar k + ar.getD k 0 * (1000 - seAt l k)
def arBad (n : Int) : Bool := !inB n 1073741824
def seE (l : List Cls) (ar : List Int) : Int := if ar.length ≠ l.length then 3 else if ar.any arBad = true then 2 else 0
def seYr (l : List Cls) (ar : List Int) : Int := if seE l ar = 0 then seY l ar l.length else 0
def seNr (l : List Cls) (ar : List Int) : Int := if seE l ar = 0 then seN l ar l.length else 0
theorem se_bd (l : List Cls) (ar : List Int) (h : ∀ i, i < l.length → 0 ≤ seAt l i ∧ seAt l i ≤ 1000) (h2 : ∀ i, i < ar.length → 0 ≤ ar.getD i 0 ∧ ar.getD i 0 ≤ 1073741824) (hl : ar.length = l.length) :
    ∀ k, k ≤ l.length → (0 ≤ seY l ar k ∧ seY l ar k ≤ k * 1073741824000) ∧ 0 ≤ seN l ar k ∧ seN l ar k ≤ k * 1073741824000
  | 0, _ => by simp [seY, seN]
  | k + 1, hk => by
    have ih := se_bd l ar h h2 hl k (by omega)
    have a := h k (by omega)
    have b := h2 k (by omega)
    generalize hs : seAt l k = s at *
    generalize hx : ar.getD k 0 = x at *
    have p1 : 0 ≤ x * s := Int.mul_nonneg b.1 a.1
    have p2 : x * s ≤ 1073741824 * 1000 := Int.mul_le_mul b.2 a.2 a.1 (by decide)
    have p3 : 0 ≤ x * (1000 - s) := Int.mul_nonneg b.1 (by omega)
    have p4 : x * (1000 - s) ≤ 1073741824 * 1000 := Int.mul_le_mul b.2 (by omega) (by omega) (by decide)
    have e1 : seY l ar (k + 1) = seY l ar k + x * s := by rw [seY, hx, hs]
    have e2 : seN l ar (k + 1) = seN l ar k + x * (1000 - s) := by rw [seN, hx, hs]
    rw [e1, e2]
    omega
theorem se_part0 (l : List Cls) (ar : List Int) (h : ∀ i, i < l.length → 0 ≤ seAt l i ∧ seAt l i ≤ 1000) :
    ∀ k, k ≤ l.length → (∀ i, i < k → 0 ≤ ar.getD i 0 ∧ ar.getD i 0 ≤ 1073741824) → (0 ≤ seY l ar k ∧ seY l ar k ≤ k * 1073741824000) ∧ 0 ≤ seN l ar k ∧ seN l ar k ≤ k * 1073741824000
  | 0, _, _ => by simp [seY, seN]
  | k + 1, hk, h2 => by
    have ih := se_part0 l ar h k (by omega) (fun i hi => h2 i (by omega))
    have a := h k (by omega)
    have b := h2 k (by omega)
    have e1 : seY l ar (k + 1) = seY l ar k + ar.getD k 0 * seAt l k := rfl
    have e2 : seN l ar (k + 1) = seN l ar k + ar.getD k 0 * (1000 - seAt l k) := rfl
    generalize seAt l k = s at *
    generalize ar.getD k 0 = x at *
    have p1 : 0 ≤ x * s := Int.mul_nonneg b.1 a.1
    have p2 : x * s ≤ 1073741824 * 1000 := Int.mul_le_mul b.2 a.2 a.1 (by decide)
    have p3 : 0 ≤ x * (1000 - s) := Int.mul_nonneg b.1 (by omega)
    have p4 : x * (1000 - s) ≤ 1073741824 * 1000 := Int.mul_le_mul b.2 (by omega) (by omega) (by decide)
    rw [e1, e2]
    omega
theorem seAt_get {l : List Cls} {k : Nat} (h : k < l.length) : seAt l k = l[k].se := by simp [seAt, h]
theorem valid_se {l : List Cls} (h : validB l = true) : l.length ≤ 16 ∧ ∀ i, i < l.length → 0 ≤ seAt l i ∧ seAt l i ≤ 1000 := by
  obtain ⟨_, h2, h3⟩ := of_validB h
  refine ⟨h2, fun i hi => ?_⟩
  rw [seAt_get hi]
  obtain ⟨_, a, b, _⟩ := of_rightB (h3 i hi).1
  exact ⟨a, b⟩
theorem se_part {l : List Cls} {ar : List Int} (hv : validB l = true) (k : Nat) (hk : k ≤ l.length) (h2 : ∀ i, i < k → 0 ≤ ar.getD i 0 ∧ ar.getD i 0 ≤ 1073741824) :
    0 ≤ seY l ar k ∧ seY l ar k ≤ 17179869184000 ∧ 0 ≤ seN l ar k ∧ seN l ar k ≤ 17179869184000 := by
  obtain ⟨h16, hs⟩ := valid_se hv
  have := se_part0 l ar hs k hk h2
  omega
theorem any_bad {ar : List Int} : ar.any arBad = false ↔ ∀ i, i < ar.length → 0 ≤ ar.getD i 0 ∧ ar.getD i 0 ≤ 1073741824 := by
  constructor
  · intro h i hi
    have : arBad (ar.getD i 0) = false := by
      rcases Bool.eq_false_or_eq_true (arBad (ar.getD i 0)) with h2 | h2
      · have : ar.any arBad = true := List.any_eq_true.2 ⟨ar.getD i 0, by simp [hi], h2⟩
        rw [h] at this; cases this
      · exact h2
    simp only [arBad, Bool.not_eq_false'] at this
    exact inB_iff.1 this
  · intro h
    rcases Bool.eq_false_or_eq_true (ar.any arBad) with h2 | h2
    · obtain ⟨x, hx, hb⟩ := List.any_eq_true.1 h2
      obtain ⟨i, hi, rfl⟩ := List.mem_iff_getElem.1 hx
      have := h i hi
      simp only [arBad, Bool.not_eq_true'] at hb
      rw [show ar.getD i 0 = ar[i] by simp [hi]] at this
      rw [inB_iff.2 this] at hb
      cases hb
    · exact h2
set_option maxHeartbeats 400000 in
theorem sealf_any (n : Int) (w : World) : Calls Tryd.prog 33 #[.int .i64 n] w fun e w' => e = .returned (.bool (arBad n)) ∧ w = w' := by
  have L := hide (fun W => luwithin_any n 1073741824 W)
  have E : Hid (arBad n = !inB n 1073741824) := hide rfl
  generalize inB n 1073741824 = b at *
  go_enter Tryd.func33, Tryd.ntmps33
  go_wp2_with fail
  refine (L.out _).mono ?_
  rintro e w' ⟨rfl, rfl⟩
  go_wp2
  go_ret
  exact ⟨ret_bool E.out.symm, rfl⟩
def SePost (y n er : Int) (w : World) (e : Ending) (w' : World) : Prop := e = .returned (.tuple #[.int .i64 y, .int .i64 n, .int .i64 er]) ∧ Below w.heap.size w w'
def slY (l : List Cls) (ar : List Int) : Int := if validB l = true then seYr l ar else 0
def slN (l : List Cls) (ar : List Int) : Int := if validB l = true then seNr l ar else 0
def slE (l : List Cls) (ar : List Int) : Int := if validB l = true then seE l ar else 1
theorem sl_bad {l : List Cls} {ar : List Int} (h : validB l = false) : slY l ar = 0 ∧ slN l ar = 0 ∧ slE l ar = 1 := by simp [slY, slN, slE, h]
theorem sl_good {l : List Cls} {ar : List Int} (h : validB l = true) : slY l ar = seYr l ar ∧ slN l ar = seNr l ar ∧ slE l ar = seE l ar := by simp [slY, slN, slE, h]
theorem se_len {l : List Cls} {ar : List Int} (h : ar.length ≠ l.length) : seYr l ar = 0 ∧ seNr l ar = 0 ∧ seE l ar = 3 := by simp [seYr, seNr, seE, h]
theorem se_any {l : List Cls} {ar : List Int} (h : ar.length = l.length) (h2 : ar.any arBad = true) : seYr l ar = 0 ∧ seNr l ar = 0 ∧ seE l ar = 2 := by simp [seYr, seNr, seE, h, h2]
theorem se_ok {l : List Cls} {ar : List Int} (h : ar.length = l.length) (h2 : ar.any arBad = false) : seYr l ar = seY l ar l.length ∧ seNr l ar = seN l ar l.length ∧ seE l ar = 0 := by simp [seYr, seNr, seE, h, h2]
/-- one more class: the sums in words -/
theorem se_step {l : List Cls} {ar : List Int} (hv : validB l = true) (hl : ar.length = l.length) (h2 : ∀ i, i < ar.length → 0 ≤ ar.getD i 0 ∧ ar.getD i 0 ≤ 1073741824) {k : Nat} (hk : k < l.length) :
    ∃ p q : Int, p = ar.getD k 0 * seAt l k ∧ q = ar.getD k 0 * (1000 - seAt l k) ∧ (0 ≤ seAt l k ∧ seAt l k ≤ 1000) ∧ (0 ≤ p ∧ p ≤ 1073741824000) ∧ (0 ≤ q ∧ q ≤ 1073741824000) ∧ (0 ≤ seY l ar k ∧ seY l ar k ≤ 17179869184000) ∧ (0 ≤ seN l ar k ∧ seN l ar k ≤ 17179869184000) ∧
      seY l ar (k + 1) = seY l ar k + p ∧ seN l ar (k + 1) = seN l ar k + q := by
  obtain ⟨h16, hs⟩ := valid_se hv
  have bd := se_bd l ar hs h2 hl k (by omega)
  have a := hs k hk
  have b := h2 k (by omega)
  refine ⟨_, _, rfl, rfl, a, ⟨Int.mul_nonneg b.1 a.1, ?_⟩, ⟨Int.mul_nonneg b.1 (by omega), ?_⟩, by omega, by omega, rfl, rfl⟩
  · exact Int.mul_le_mul b.2 a.2 a.1 (by decide)
  · exact Int.mul_le_mul b.2 (show 1000 - seAt l k ≤ 1000 by omega) (by omega) (by decide)
theorem getD_get {ar : List Int} {k : Nat} (h : k < ar.length) : ar[k] = ar.getD k 0 := by simp [h]
set_option maxRecDepth 100000 in
set_option maxHeartbeats 2000000 in
theorem sealed_any (l : List Cls) (A : Option Addr) (cap : Nat) (ar : List Int) (B : Option Addr) (cap2 : Nat) (w : World) (hl : ClsSl w A l) (ha : IntSl w B ar) :
    Calls Tryd.prog 16 #[.slice A l.length cap, .slice B ar.length cap2] w (SePost (slY l ar) (slN l ar) (slE l ar) w) := by
  have hlen : l.length ≤ maxLen := hl.1.1
  unfold maxLen at hlen
  have hlen2 : ar.length ≤ 9223372036854775807 := ha.1.1
  have H := hide hl
  have HA := hide ha
  have V := hide (fun W h => luvalid_any l A cap W h)
  have CI := hide (fun W h => contI_any 33 arBad sealf_any (fun d w => enters_of Tryd.func33 (by kernel_rfl) rfl _ w) ar B cap2 W h)
  clear hl ha
  rcases Bool.eq_false_or_eq_true (validB l) with hv | hv
  case inr =>
    have E := hide (sl_bad (ar := ar) hv)
    rw [hv] at V
    clear hv
    go_enter Tryd.func16, Tryd.ntmps16
    go_wp2_with fail
    refine (V.out _ H.out).mono ?_
    rintro e w1 ⟨rfl, hb⟩
    go_wp2
    exact bodyPost_ret (v := .tuple #[.int .i64 0, .int .i64 0, .int .i64 1]) (by simp [results, Tryd.results16, go_sem]) rfl ⟨by rw [E.out.1, E.out.2.1, E.out.2.2], hb⟩
  have E0 := hide (sl_good (ar := ar) hv)
  have HV := hide hv
  rw [hv] at V
  clear hv
  by_cases hn : ar.length = l.length
  case neg =>
    have E := hide (se_len hn)
    have q1 : ((ar.length : Int) == (l.length : Int)) = false := by simp; omega
    have q2 : ((ar.length : Int) != (l.length : Int)) = true := by simp; omega
    clear hn
    go_enter Tryd.func16, Tryd.ntmps16
    go_wp2_with fail
    refine (V.out _ H.out).mono ?_
    rintro e w1 ⟨rfl, hb⟩
    go_wp2
    exact bodyPost_ret (v := .tuple #[.int .i64 0, .int .i64 0, .int .i64 3]) (by simp [results, Tryd.results16, go_sem]) rfl ⟨by rw [E0.out.1, E0.out.2.1, E0.out.2.2, E.out.1, E.out.2.1, E.out.2.2], hb⟩
  have HN := hide hn
  rw [hn] at CI hlen2 ⊢
  clear hn
  rcases Bool.eq_false_or_eq_true (ar.any arBad) with hv | hv
  · have E := hide (se_any HN.out hv)
    rw [hv] at CI
    clear hv
    go_enter Tryd.func16, Tryd.ntmps16
    go_wp2_with fail
    refine (V.out _ H.out).mono ?_
    rintro e w1 ⟨rfl, hb⟩
    have HA1 := hide (HA.out.below hb)
    replace hb := hide hb
    go_wp2_with fail
    refine (CI.out _ HA1.out).mono ?_
    rintro e w2 ⟨rfl, rfl⟩
    go_wp2
    exact bodyPost_ret (v := .tuple #[.int .i64 0, .int .i64 0, .int .i64 2]) (by simp [results, Tryd.results16, go_sem]) rfl ⟨by rw [E0.out.1, E0.out.2.1, E0.out.2.2, E.out.1, E.out.2.1, E.out.2.2], hb.out⟩
  have E := hide (se_ok HN.out hv)
  have ST := hide (fun k hk => se_step HV.out HN.out (any_bad.1 hv) (k := k) hk)
  rw [hv] at CI
  clear hv
  go_enter Tryd.func16, Tryd.ntmps16
  go_wp2_with fail
  refine (V.out _ H.out).mono ?_
  rintro e w1 ⟨rfl, hb⟩
  have H1 := hide (H.out.below hb)
  have HA1 := hide (HA.out.below hb)
  replace hb := hide hb
  go_wp2_with fail
  refine (CI.out _ HA1.out).mono ?_
  rintro e w2 ⟨rfl, rfl⟩
  go_wp2
  go_loopw [7, 8, 26] (fun v7 v8 v26 wr => ∃ k : Nat, k ≤ l.length ∧ v26 = .int .i64 (k : Int) ∧ v7 = .int .i64 (seY l ar k) ∧ v8 = .int .i64 (seN l ar k) ∧ Hid (Below w1.heap.size w1 wr)) (fun _ _ v26 _ => l.length - (intOf v26).toNat)
  case atStart => exact ⟨0, Nat.zero_le _, rfl, rfl, rfl, hide (Below.refl _ _)⟩
  case round =>
    obtain ⟨k, hk, rfl, rfl, rfl, HB⟩ := hrel
    by_cases hlt : k < l.length
    · obtain ⟨b, off, rfl, hbl, hat⟩ := (H1.out.below HB.out).2 (by omega)
      obtain ⟨c0, c1, c2, c3, c4⟩ := hat k hlt
      obtain ⟨b2, off2, rfl, hbl2, hat2⟩ := (HA1.out.below HB.out).2 (by have := HN.out; omega)
      have lk2 : k < ar.length := by have := HN.out; omega
      have d0 := hat2 k lk2
      rw [getD_get lk2] at d0
      have lk : l[k].se = seAt l k := (seAt_get hlt).symm
      obtain ⟨p, q, hp, hq, ⟨s1, s2⟩, ⟨p1, p2⟩, ⟨r1, r2⟩, ⟨y1, y2⟩, ⟨n1, n2⟩, ey, en⟩ := ST.out k hlt
      have HBA := hide (HB.out.alloc HB.out.size (.cells #[.string l[k].nm, .int .i64 (seAt l k), .int .i64 l[k].we, .int .i64 l[k].ro, .int .i64 l[k].dr] 54))
      have d1 := (((Below.refl wr.heap.size wr).alloc (Nat.le_refl _) (.cells #[.string l[k].nm, .int .i64 (seAt l k), .int .i64 l[k].we, .int .i64 l[k].ro, .int .i64 l[k].dr] 54)).cell (p := ⟨b2, off2 + k, none⟩) hbl2).trans d0
      have hr := (Blk.new wr 54 #[.string l[k].nm, .int .i64 (seAt l k), .int .i64 l[k].we, .int .i64 l[k].ro, .int .i64 l[k].dr]).rules
      have EY := hide (And.intro ey en)
      rw [lk] at c1
      clear hat hat2 ey en d0 lk lk2
      generalize seY l ar k = y at *
      generalize seN l ar k = n at *
      generalize seAt l k = s at *
      generalize ar.getD k 0 = x at *
      generalize l[k] = c at *
      have w0 := IntWalk.i64_in (1000 - s) (by omega)
      have w1' : IntKind.i64.wrap (x * s) = p := by rw [← hp]; exact IntWalk.i64_in _ (by omega)
      have w2' : IntKind.i64.wrap (x * (1000 - s)) = q := by rw [← hq]; exact IntWalk.i64_in _ (by omega)
      have w3 := IntWalk.i64_in (y + p) (by omega)
      have w4 := IntWalk.i64_in (n + q) (by omega)
      clear hp hq
      go_wp2
      go_region
      go_wp2
      go_region
      go_wp2
      go_roundw
      case rel => exact ⟨k + 1, by omega, by go_num, by rw [EY.out.1], by rw [EY.out.2], hide HBA.out.drew.drew⟩
      case measure => simp [intOf]; omega
    · obtain rfl : k = l.length := by omega
      have FB := hide (below_via hb.out hb.out.size HB.out)
      clear hb HB
      go_wp2
      exact bodyPost_ret (v := .tuple #[.int .i64 (seY l ar l.length), .int .i64 (seN l ar l.length), .int .i64 0]) (by simp [results, Tryd.results16, go_sem]) rfl ⟨by rw [E0.out.1, E0.out.2.1, E0.out.2.2, E.out.1, E.out.2.1, E.out.2.2], FB.out⟩
end Go.Proofs.YtaaadejamjbcbaaDoor
