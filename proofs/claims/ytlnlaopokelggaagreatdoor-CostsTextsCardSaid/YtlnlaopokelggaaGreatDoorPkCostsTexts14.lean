/- Parts of one proof, joined: The program's IsName: it reports whether a string is a name, for every string; it leaves the world as it is. Items of bills in memory; slices.IndexFunc and slices.ContainsFunc at items; valid bills; nothing that was there is turned. Bills, said of integers: what a bill costs, the merged bill, the difference; costs add up. Bills as texts: what the program and the reference read, and write; that a bill is read from its text; plain facts. (Printed by gen_ct.py.). -/
import Derived.Test.YtlnlaopokelggaaGreatDoorPkCostsTexts13
import Derived.Test.YtlnlaopokelggaaGreatDoorPkCostsTexts2
import Derived.Test.YtlnlaopokelggaaGreatDoorPkCostsTexts3
namespace Go.Proofs.YtlnlaopokelggaaGreatDoor
open Go.RowKit

set_option maxHeartbeats 400000 in
theorem letter_any (c : Int) (w : World) : Calls Tryz.prog 43 #[.int .u8 c] w fun e w' => e = .returned (.bool (letB c)) ∧ w = w' := by
  by_cases h1 : 97 ≤ c <;> by_cases h2 : c ≤ 122 <;> by_cases h3 : 65 ≤ c <;> by_cases h4 : c ≤ 90
  all_goals
    go_enter Tryz.func43, Tryz.ntmps43
    go_wp2
    go_ret
    refine ⟨ret_bool ?_, rfl⟩
    simp [letB, h1, h2, h3, h4]
set_option maxHeartbeats 400000 in
theorem digit_any (c : Int) (w : World) : Calls Tryz.prog 72 #[.int .u8 c] w fun e w' => e = .returned (.bool (digB c)) ∧ w = w' := by
  by_cases h1 : 48 ≤ c <;> by_cases h2 : c ≤ 57
  all_goals
    go_enter Tryz.func72, Tryz.ntmps72
    go_wp2
    go_ret
    refine ⟨ret_bool ?_, rfl⟩
    simp [digB, h1, h2]
theorem wd_let {c : Int} (h : letB c = true) : wdB c = true := by simp [wdB, h]
theorem wd_dig {c : Int} (h2 : digB c = true) : wdB c = true := by simp [wdB, h2]
theorem wd_und {c : Int} (h : letB c = false) (h2 : digB c = false) : wdB c = (c == 95) := by simp [wdB, h, h2]

set_option maxHeartbeats 1000000 in
theorem word_any (s : ByteArray) (w : World) (hs : s.size ≤ maxLen) :
    Calls Tryz.prog 44 #[.string s] w fun e w' => e = .returned (.int .i64 (wl s.data.toList)) ∧ w = w' := by
  unfold maxLen at hs
  go_enter Tryz.func44, Tryz.ntmps44
  go_wp2
  go_loop [3] (fun i => ∃ k : Nat, k ≤ s.size ∧ i = .int .i64 k ∧ Hid (wl s.data.toList = k + wl (s.data.toList.drop k))) (fun i => s.size - (intOf i).toNat)
  case atStart => exact ⟨0, Nat.zero_le _, rfl, hide (by simp)⟩
  case round =>
    obtain ⟨k, hk, rfl, hw⟩ := hrel
    by_cases hlt : k < s.size
    · have hat := hide (wl_at s k hlt hw.out)
      have hbd := byte_bd s[k]
      by_cases h1 : letB (s[k].toNat : Int) = true
      · have h1' := hide (wd_let h1)
        go_wp2_with (first | (go_at_call 43; refine (letter_any _ _).mono ?_; rintro e w' ⟨rfl, rfl⟩))
        go_round
        case rel => exact ⟨k + 1, by omega, by go_num, hide (by have := hat.out; rw [if_pos h1'.out] at this; omega)⟩
        case measure => simp [intOf]; omega
      · have h1 : letB (s[k].toNat : Int) = false := by simpa using h1
        by_cases h2 : digB (s[k].toNat : Int) = true
        · have h1' := hide (wd_dig h2)
          go_wp2_with (first | (go_at_call 43; refine (letter_any _ _).mono ?_; rintro e w' ⟨rfl, rfl⟩) | (go_at_call 72; refine (digit_any _ _).mono ?_; rintro e w' ⟨rfl, rfl⟩))
          go_round
          case rel => exact ⟨k + 1, by omega, by go_num, hide (by have := hat.out; rw [if_pos h1'.out] at this; omega)⟩
          case measure => simp [intOf]; omega
        · have h2 : digB (s[k].toNat : Int) = false := by simpa using h2
          have h3' := hide (wd_und h1 h2)
          by_cases h3 : ((s[k].toNat : Int) == 95) = true
          · have h3'' := hide h3
            go_wp2_with (first | (go_at_call 43; refine (letter_any _ _).mono ?_; rintro e w' ⟨rfl, rfl⟩) | (go_at_call 72; refine (digit_any _ _).mono ?_; rintro e w' ⟨rfl, rfl⟩))
            go_round
            case rel => exact ⟨k + 1, by omega, by go_num, hide (by have := hat.out; rw [if_pos (h3'.out.trans h3''.out)] at this; omega)⟩
            case measure => simp [intOf]; omega
          · have h3 : ((s[k].toNat : Int) == 95) = false := by simpa using h3
            have h3'' := hide h3
            go_wp2_with (first | (go_at_call 43; refine (letter_any _ _).mono ?_; rintro e w' ⟨rfl, rfl⟩) | (go_at_call 72; refine (digit_any _ _).mono ?_; rintro e w' ⟨rfl, rfl⟩))
            go_ret
            refine ⟨ret_int ?_, rfl⟩
            have := hat.out
            rw [if_neg (by rw [h3'.out, h3''.out]; simp)] at this
            omega
    · have he : k = s.size := by omega
      have hq := hide (wl_end s (he ▸ hw.out))
      clear he
      go_wp2
      go_ret
      refine ⟨ret_int ?_, rfl⟩
      have := hq.out
      omega
theorem empty_of {s : ByteArray} (h : s.size = 0) : (!s.toList.isEmpty) = false := by
  rw [ByteArray.toList_eq]
  have : s.data.toList = [] := by apply List.eq_nil_of_length_eq_zero; simpa using h
  rw [this]; rfl
theorem full_of {s : ByteArray} (h : 0 < s.size) : (!s.toList.isEmpty) = true := by
  rw [ByteArray.toList_eq]
  cases e : s.data.toList with
  | nil =>
    have h2 : s.data.toList.length = s.size := Array.length_toList
    rw [e] at h2; simp at h2; omega
  | cons => rfl
set_option maxHeartbeats 1000000 in
theorem isname_any (s : ByteArray) (w : World) (hs : s.size ≤ maxLen) :
    Calls Tryz.prog 20 #[.string s] w fun e w' => e = .returned (.bool (nameB s.data.toList)) ∧ w = w' := by
  have hs' := hs
  unfold maxLen at hs
  by_cases h0 : s.size = 0
  · have hn := hide (nameB_nil s h0)
    have he' := empty_of h0
    go_enter Tryz.func20, Tryz.ntmps20
    go_wp2
    go_ret
    exact ⟨ret_bool hn.out.symm, rfl⟩
  · have hn := hide (nameB_at s (by omega))
    have hp : 0 < s.size := by omega
    have he := full_of hp
    by_cases h1 : s.size ≤ 20 <;> by_cases h2 : letB (s[0].toNat : Int) = true
    all_goals
      go_enter Tryz.func20, Tryz.ntmps20
      go_wp2_with (first | (go_at_call 43; refine (letter_any _ _).mono ?_; rintro e w' ⟨rfl, rfl⟩) | (go_at_call 44; refine (word_any _ _ hs').mono ?_; rintro e w' ⟨rfl, rfl⟩))
      go_ret
      refine ⟨ret_bool ?_, rfl⟩
      rw [hn.out]
      simp [h1, h2]
    rw [Bool.eq_iff_iff]; simp; omega
end Go.Proofs.YtlnlaopokelggaaGreatDoor

namespace Go.Proofs.YtlnlaopokelggaaGreatDoor
open Go Go.RowKit

structure Itm where
  nm : ByteArray
  am : Int
  pr : Int
abbrev Itm.val (x : Itm) : Value := .agg #[.string x.nm, .int .i64 x.am, .int .i64 x.pr]
def ItmAt (w : World) (b o : Nat) (x : Itm) : Prop := w.cell? ⟨b, o, none⟩ = some (.string x.nm) ∧ w.cell? ⟨b, o + 1, none⟩ = some (.int .i64 x.am) ∧ w.cell? ⟨b, o + 2, none⟩ = some (.int .i64 x.pr)
/-- a slice of items that reads as a list -/
def ItmSl (w : World) (A : Option Addr) (l : List Itm) : Prop :=
  (l.length ≤ maxLen ∧ ∀ i (h : i < l.length), l[i].nm.size ≤ maxLen) ∧ (0 < l.length → ∃ b off, A = some ⟨b, off, none⟩ ∧ b < w.heap.size ∧ ∀ i (h : i < l.length), ItmAt w b (off + i * 3) l[i])
theorem ItmSl.below {w w' : World} {A : Option Addr} {l : List Itm} (h : ItmSl w A l) (hb : Below w.heap.size w w') : ItmSl w' A l :=
  ⟨h.1, fun hl => by
    obtain ⟨b, off, e, hlt, hat⟩ := h.2 hl
    have k := fun (i : Nat) => hb.cell (p := ⟨b, i, none⟩) hlt
    exact ⟨b, off, e, Nat.lt_of_lt_of_le hlt hb.size, fun i hi => ⟨(k _).trans (hat i hi).1, (k _).trans (hat i hi).2.1, (k _).trans (hat i hi).2.2⟩⟩⟩
theorem ItmSl.nil (w : World) (A : Option Addr) : ItmSl w A [] := ⟨⟨by simp, fun i h => by simp at h⟩, fun h => by simp at h⟩
def idxM (p : Itm → Bool) (l : List Itm) : Int := match l.findIdx? p with | some i => (i : Int) | none => -1
theorem idxM_no {p : Itm → Bool} {l : List Itm} (h : ∀ i (hi : i < l.length), p l[i] = false) : idxM p l = -1 := by
  have : l.findIdx? p = none := by
    rw [List.findIdx?_eq_none_iff]
    intro x hx
    obtain ⟨i, hi, rfl⟩ := List.mem_iff_getElem.1 hx
    exact h i hi
  simp [idxM, this]
theorem idxM_yes {p : Itm → Bool} {l : List Itm} {k : Nat} (hk : k < l.length) (h : ∀ i (hi : i < l.length), i < k → p l[i] = false) (hy : p l[k] = true) : idxM p l = k := by
  have : l.findIdx? p = some k := by
    rw [List.findIdx?_eq_some_iff_getElem]
    exact ⟨hk, hy, fun j hj => by rw [h j (by omega) hj]; simp⟩
  simp [idxM, this]
theorem any_idxM (p : Itm → Bool) (l : List Itm) : l.any p = decide (0 ≤ idxM p l) := by
  unfold idxM
  cases h : l.findIdx? p with
  | none =>
    rw [List.findIdx?_eq_none_iff] at h
    rw [Bool.eq_iff_iff]
    simp only [List.any_eq_true, decide_eq_true_eq]
    constructor
    · rintro ⟨x, hx, hp⟩
      rw [h x hx] at hp
      cases hp
    · intro h'
      omega
  | some i =>
    rw [List.findIdx?_eq_some_iff_getElem] at h
    obtain ⟨hi, hp, _⟩ := h
    rw [Bool.eq_iff_iff]
    simp only [List.any_eq_true, decide_eq_true_eq]
    exact ⟨fun _ => by omega, fun _ => ⟨l[i], List.getElem_mem hi, hp⟩⟩
set_option maxRecDepth 100000 in
set_option maxHeartbeats 2000000 in
theorem idxM_any (f : Nat) (q : Itm → Bool) (hf : ∀ (d : Itm) (W : World), d.nm.size ≤ maxLen → Calls Tryz.prog f #[d.val] W (RetW (.bool (q d)) W)) (hc : ∀ (d : Itm) (w : World), (callFunc f #[d.val]).run Tryz.prog w = .ok (.enter f #[d.val]) w) (l : List Itm) (A : Option Addr) (cap : Nat) (w : World) (hl : ItmSl w A l) :
    Calls Tryz.prog 40 #[.slice A l.length cap, .func (.func f) #[] #[]] w (RetW (.int .i64 (idxM q l)) w) := by
  have hlen : l.length ≤ 9223372036854775807 := by have := hl.1.1; unfold maxLen at this; omega
  have H := hide hl
  have CK := hide hf
  unfold RetW at CK
  clear hl hf
  go_enter Tryz.func40, Tryz.ntmps40
  go_wp2
  go_loopw [8] (fun v8 wr => ∃ k : Nat, k ≤ l.length ∧ v8 = .int .i64 k ∧ Hid (Below w.heap.size w wr) ∧ Hid (∀ i (hi : i < l.length), i < k → q l[i] = false)) (fun v8 _ => l.length - (intOf v8).toNat)
  case atStart => exact ⟨0, Nat.zero_le _, rfl, hide (Below.refl _ _), hide (fun _ _ h => by omega)⟩
  case round =>
    obtain ⟨k, hk, rfl, HW, hno⟩ := hrel
    by_cases hlt : k < l.length
    · obtain ⟨b, off, rfl, hbl, hat⟩ := (H.out.below HW.out).2 (by omega)
      obtain ⟨c0, c1, c2⟩ := hat k hlt
      have CKk := hide (fun W => CK.out l[k] W (H.out.1.2 k hlt))
      clear hat
      by_cases hs : q l[k] = true
      · have E := hide (idxM_yes (p := q) hlt (fun i hi hik => hno.out i hi hik) hs)
        rw [hs] at CKk
        clear hs
        generalize l[k] = o at *
        go_wp2_with fail
        refine (CKk.out _).mono ?_
        rintro e w' ⟨rfl, hb⟩
        go_wp2
        go_ret
        exact ⟨ret_int E.out.symm, below_via HW.out HW.out.size hb⟩
      · have hs : q l[k] = false := by simpa using hs
        have hno2 := hide (fun i (hi : i < l.length) (hik : i < k + 1) => (show q l[i] = false by
          by_cases e : i = k
          · subst e; exact hs
          · exact hno.out i hi (by omega)))
        rw [hs] at CKk
        clear hs
        generalize l[k] = o at *
        go_wp2_with fail
        refine (CKk.out _).mono ?_
        rintro e w' ⟨rfl, hb⟩
        have HW2 := hide (below_via HW.out HW.out.size hb)
        clear hb
        go_wp2
        go_roundw
        case rel => exact ⟨k + 1, by omega, by go_num, HW2, hno2⟩
        case measure => simp [intOf]; omega
    · go_wp2
      go_ret
      exact ⟨ret_int (idxM_no fun i hi => hno.out i hi (by omega)).symm, HW.out⟩
set_option maxHeartbeats 1000000 in
theorem contM_any (f : Nat) (q : Itm → Bool) (hf : ∀ (d : Itm) (W : World), d.nm.size ≤ maxLen → Calls Tryz.prog f #[d.val] W (RetW (.bool (q d)) W)) (hc : ∀ (d : Itm) (w : World), (callFunc f #[d.val]).run Tryz.prog w = .ok (.enter f #[d.val]) w) (l : List Itm) (A : Option Addr) (cap : Nat) (w : World) (hl : ItmSl w A l) :
    Calls Tryz.prog 15 #[.slice A l.length cap, .func (.func f) #[] #[]] w (RetW (.bool (l.any q)) w) := by
  have C := hide (idxM_any f q hf hc l A cap w hl)
  have H := hide (any_idxM q l)
  unfold RetW at C
  clear hf hl
  go_enter Tryz.func15, Tryz.ntmps15
  go_wp2_with fail
  refine C.out.mono ?_
  rintro e w' ⟨rfl, hb⟩
  go_wp2
  go_ret
  exact ⟨ret_bool H.out.symm, hb⟩
def amB (n : Int) : Bool := decide (-1073741824 ≤ n) && decide (n ≤ 1073741824)
def prcB (n : Int) : Bool := decide (0 ≤ n) && decide (n ≤ 1073741824)
/-- an item is right -/
def itB (x : Itm) : Bool := nameB x.nm.data.toList && amB x.am && prcB x.pr
def vI (l : List Itm) : Bool := decide (l.length ≤ 1000) && l.all itB
set_option maxHeartbeats 2000000 in
theorem covalid1_any (x : Itm) (w : World) (h : x.nm.size ≤ maxLen) : Calls Tryz.prog 46 #[x.val] w (RetW (.bool (!itB x)) w) := by
  have NB := hide (fun W => isname_any x.nm W h)
  have B1 := hide (fun W => cobetween_any x.am (-1073741824) 1073741824 W)
  have B2 := hide (fun W => cobetween_any x.pr 0 1073741824 W)
  have E : Hid (itB x = (nameB x.nm.data.toList && (decide (-1073741824 ≤ x.am) && decide (x.am ≤ 1073741824)) && (decide (0 ≤ x.pr) && decide (x.pr ≤ 1073741824)))) := hide rfl
  have X := (Own.start w).alloc #[.string x.nm, .int .i64 x.am, .int .i64 x.pr] 34
  have hr := X.r1
  clear h
  generalize nameB x.nm.data.toList = b0 at *
  generalize (decide (-1073741824 ≤ x.am) && decide (x.am ≤ 1073741824)) = b1 at *
  generalize (decide (0 ≤ x.pr) && decide (x.pr ≤ 1073741824)) = b2 at *
  have ways : b0 = false ∨ (b0 = true ∧ b1 = false) ∨ (b0 = true ∧ b1 = true) := by cases b0 <;> cases b1 <;> simp
  rcases ways with rfl | ⟨rfl, rfl⟩ | ⟨rfl, rfl⟩
  · go_enter Tryz.func46, Tryz.ntmps46
    go_wp2_with fail
    refine (NB.out _).mono ?_
    rintro e w' ⟨rfl, rfl⟩
    go_wp2
    go_ret
    exact ⟨ret_bool (by rw [E.out]; rfl), X.1⟩
  · go_enter Tryz.func46, Tryz.ntmps46
    go_wp2_with fail
    refine (NB.out _).mono ?_
    rintro e w' ⟨rfl, rfl⟩
    go_wp2_with fail
    refine (B1.out _).mono ?_
    rintro e w' ⟨rfl, rfl⟩
    go_wp2
    go_ret
    exact ⟨ret_bool (by rw [E.out]; rfl), X.1⟩
  · go_enter Tryz.func46, Tryz.ntmps46
    go_wp2_with fail
    refine (NB.out _).mono ?_
    rintro e w' ⟨rfl, rfl⟩
    go_wp2_with fail
    refine (B1.out _).mono ?_
    rintro e w' ⟨rfl, rfl⟩
    go_wp2_with fail
    refine (B2.out _).mono ?_
    rintro e w' ⟨rfl, rfl⟩
    go_wp2
    go_ret
    exact ⟨ret_bool (by rw [E.out]; simp), X.1⟩
set_option maxHeartbeats 1000000 in
theorem covalid_any (l : List Itm) (A : Option Addr) (cap : Nat) (w : World) (hl : ItmSl w A l) : Calls Tryz.prog 22 #[.slice A l.length cap] w (RetW (.bool (vI l)) w) := by
  have C := hide (contM_any 46 (fun x => !itB x) covalid1_any (fun d w => enters_of Tryz.func46 (by kernel_rfl) rfl _ w) l A cap w hl)
  have E : Hid ((!(l.any fun x => !itB x)) = l.all itB) := hide (by rw [List.any_eq_not_all_not]; simp)
  have EV : Hid (vI l = (decide (l.length ≤ 1000) && l.all itB)) := hide rfl
  have hlen : l.length ≤ 9223372036854775807 := by have := hl.1.1; unfold maxLen at this; omega
  unfold RetW at C
  clear hl
  generalize (l.any fun x => !itB x) = b at *
  generalize l.all itB = b2 at *
  generalize vI l = v at *
  by_cases h : l.length ≤ 1000
  · have g : decide (l.length ≤ 1000) = true := decide_eq_true h
    go_enter Tryz.func22, Tryz.ntmps22
    go_wp2_with fail
    refine C.out.mono ?_
    rintro e w' ⟨rfl, hb⟩
    go_wp2
    go_ret
    exact ⟨ret_bool (by rw [EV.out, g, E.out]; rfl), hb⟩
  · have g : decide (l.length ≤ 1000) = false := decide_eq_false h
    go_enter Tryz.func22, Tryz.ntmps22
    go_wp2
    go_ret
    exact ⟨ret_bool (by rw [EV.out, g]; rfl), Below.refl _ _⟩
end Go.Proofs.YtlnlaopokelggaaGreatDoor

namespace Go.Proofs.YtlnlaopokelggaaGreatDoor

/-- items of one name and price -/
def same (x y : Itm) : Bool := decide (y.nm = x.nm) && decide (y.pr = x.pr)
theorem same_iff {x y : Itm} : same x y = true ↔ y.nm = x.nm ∧ y.pr = x.pr := by simp [same]
theorem same_refl (x : Itm) : same x x = true := same_iff.2 ⟨rfl, rfl⟩
theorem same_symm {x y : Itm} (h : same x y = true) : same y x = true := same_iff.2 ⟨(same_iff.1 h).1.symm, (same_iff.1 h).2.symm⟩
theorem same_trans {x y z : Itm} (h : same x y = true) (k : same y z = true) : same x z = true := same_iff.2 ⟨(same_iff.1 k).1.trans (same_iff.1 h).1, (same_iff.1 k).2.trans (same_iff.1 h).2⟩
theorem same_congr {x y z : Itm} (h : same x y = true) : same x z = same y z := by
  rw [Bool.eq_iff_iff]
  exact ⟨fun k => same_trans (same_symm h) k, fun k => same_trans h k⟩
def csS : List Itm → Int
  | [] => 0
  | x :: l => x.am * x.pr + csS l
theorem csS_append : ∀ a b : List Itm, csS (a ++ b) = csS a + csS b
  | [], b => by simp [csS]
  | x :: a, b => by simp only [List.cons_append, csS, csS_append a b]; omega
theorem csS_reverse : ∀ a : List Itm, csS a.reverse = csS a
  | [] => rfl
  | x :: a => by rw [List.reverse_cons, csS_append, csS_reverse a]; simp only [csS]; omega
theorem itB_bd {x : Itm} (h : itB x = true) : (-1073741824 ≤ x.am ∧ x.am ≤ 1073741824) ∧ 0 ≤ x.pr ∧ x.pr ≤ 1073741824 := by
  simp only [itB, amB, prcB, Bool.and_eq_true, decide_eq_true_eq] at h
  omega
theorem vI_iff {l : List Itm} : vI l = true ↔ l.length ≤ 1000 ∧ ∀ x ∈ l, itB x = true := by simp [vI]
theorem prod_bd {x : Itm} (h : itB x = true) : -1152921504606846976 ≤ x.am * x.pr ∧ x.am * x.pr ≤ 1152921504606846976 := by
  obtain ⟨h1, h2⟩ := itB_bd h
  have := mul_bd (x := x.am) (y := x.pr) (n := 1073741824) (by omega) (by omega)
  simpa using this
theorem csS_bd : ∀ l : List Itm, (∀ x ∈ l, itB x = true) → -(1152921504606846976 * (l.length : Int)) ≤ csS l ∧ csS l ≤ 1152921504606846976 * (l.length : Int)
  | [], _ => by simp [csS]
  | x :: l, h => by
    have i := csS_bd l fun y hy => h y (List.mem_cons_of_mem _ hy)
    have p := prod_bd (h x (List.mem_cons_self ..))
    simp only [csS, List.length_cons]
    generalize x.am * x.pr = q at *
    omega
/-- what a bill costs, and the error -/
def biE (l : List Itm) : Int := if vI l = true then if -1152921504606846976 ≤ csS l ∧ csS l ≤ 1152921504606846976 then 0 else 5 else 1
def biV (l : List Itm) : Int := if biE l = 0 then csS l else 0
/-- the amount of all items like one -/
def tot (x : Itm) : List Itm → Int
  | [] => 0
  | y :: l => (if same x y = true then y.am else 0) + tot x l
theorem tot_append (x : Itm) : ∀ a b : List Itm, tot x (a ++ b) = tot x a + tot x b
  | [], b => by simp [tot]
  | y :: a, b => by simp only [List.cons_append, tot, tot_append x a b]; omega
theorem tot_congr {x y : Itm} (h : same x y = true) : ∀ l : List Itm, tot x l = tot y l
  | [] => rfl
  | z :: l => by simp only [tot, same_congr h, tot_congr h l]
theorem tot_none {x : Itm} : ∀ {l : List Itm}, l.any (same x) = false → tot x l = 0
  | [], _ => rfl
  | y :: l, h => by
    simp only [List.any_cons, Bool.or_eq_false_iff] at h
    simp [tot, h.1, tot_none h.2]
theorem tot_bd (x : Itm) : ∀ l : List Itm, (∀ y ∈ l, itB y = true) → -(1073741824 * (l.length : Int)) ≤ tot x l ∧ tot x l ≤ 1073741824 * (l.length : Int)
  | [], _ => by simp [tot]
  | y :: l, h => by
    have i := tot_bd x l fun y hy => h y (List.mem_cons_of_mem _ hy)
    obtain ⟨p, _⟩ := itB_bd (h y (List.mem_cons_self ..))
    simp only [tot, List.length_cons]
    split <;> omega
/-- one item more in the sums -/
def addM (s : List Itm) (x : Itm) : List Itm :=
  match s.findIdx? (same x) with
  | some k => s.set k ⟨(s.getD k x).nm, (s.getD k x).am + x.am, (s.getD k x).pr⟩
  | none => s ++ [x]
def mgS (l : List Itm) : List Itm := l.foldl addM []
theorem mgS_snoc (l : List Itm) (x : Itm) : mgS (l ++ [x]) = addM (mgS l) x := by simp [mgS]
theorem snoc_ind {P : List Itm → Prop} (h0 : P []) (h1 : ∀ l x, P l → P (l ++ [x])) (l : List Itm) : P l := by
  have : ∀ n (l : List Itm), l.length = n → P l := by
    intro n
    induction n with
    | zero => intro l hl; rw [List.length_eq_zero_iff.1 hl]; exact h0
    | succ n ih =>
      intro l hl
      have hne : l ≠ [] := by intro e; rw [e] at hl; simp at hl
      rw [← List.dropLast_concat_getLast hne]
      exact h1 _ _ (ih _ (by rw [List.length_dropLast]; omega))
  exact this _ l rfl
/-- the items at which a name and price occur first -/
def fsM (l : List Itm) : List Itm := l.foldl (fun s x => if s.any (same x) = true then s else s ++ [x]) []
theorem fsM_snoc (l : List Itm) (x : Itm) : fsM (l ++ [x]) = if (fsM l).any (same x) = true then fsM l else fsM l ++ [x] := by simp [fsM]
theorem any_fsM (x : Itm) (l : List Itm) : (fsM l).any (same x) = l.any (same x) := by
  induction l using snoc_ind with
  | h0 => rfl
  | h1 l y ih =>
    rw [fsM_snoc]
    by_cases h : (fsM l).any (same y) = true
    · rw [if_pos h, List.any_append, ih]
      simp only [List.any_cons, List.any_nil, Bool.or_false]
      by_cases k : same x y = true
      · obtain ⟨z, hz, hs⟩ := List.any_eq_true.1 h
        have : l.any (same x) = true := by
          rw [← ih]
          exact List.any_eq_true.2 ⟨z, hz, same_trans k hs⟩
        simp [this]
      · simp [k]
    · rw [if_neg h, List.any_append, List.any_append, ih]
def wth (l : List Itm) (x : Itm) : Itm := ⟨x.nm, tot x l, x.pr⟩
theorem same_wth (x : Itm) (l : List Itm) (y : Itm) : same x (wth l y) = same x y := rfl
def ndM : List Itm → Prop
  | [] => True
  | x :: l => l.any (same x) = false ∧ ndM l
theorem ndM_snoc : ∀ (l : List Itm) (x : Itm), ndM l → l.any (same x) = false → ndM (l ++ [x])
  | [], x, _, _ => ⟨rfl, trivial⟩
  | y :: l, x, h, k => by
    simp only [List.any_cons, Bool.or_eq_false_iff] at k
    refine ⟨?_, ndM_snoc l x h.2 k.2⟩
    show (l ++ [x]).any (same y) = false
    rw [List.any_append, h.1]
    have : same y x = false := by
      cases e : same y x with
      | false => rfl
      | true => rw [same_symm e] at k; simp at k
    simp [this]
theorem fsM_nd (l : List Itm) : ndM (fsM l) := by
  induction l using snoc_ind with
  | h0 => exact trivial
  | h1 l x ih =>
    rw [fsM_snoc]
    by_cases h : (fsM l).any (same x) = true
    · rw [if_pos h]; exact ih
    · rw [if_neg h]; exact ndM_snoc _ _ ih (by simpa using h)
theorem ndM_at : ∀ {s : List Itm} (_ : ndM s) {i j : Nat} (hi : i < s.length) (hj : j < s.length), same s[i] s[j] = true → i = j
  | [], _, _, _, hi, _, _ => by simp at hi
  | x :: l, h, i, j, hi, hj, hs => by
    have no : ∀ k (hk : k < l.length), same x l[k] = false := fun k hk => by
      have := h.1
      rw [List.any_eq_false] at this
      simpa using this _ (List.getElem_mem hk)
    rcases i with _ | i <;> rcases j with _ | j
    · rfl
    · simp only [List.getElem_cons_zero, List.getElem_cons_succ] at hs
      rw [no j (by simpa using hj)] at hs; cases hs
    · simp only [List.getElem_cons_zero, List.getElem_cons_succ] at hs
      have := same_symm hs
      rw [no i (by simpa using hi)] at this; cases this
    · simp only [List.getElem_cons_succ] at hs
      rw [ndM_at h.2 (by simpa using hi) (by simpa using hj) hs]
/-- the sums are the first items with the amounts of all that are like them -/
theorem mgS_eq (l : List Itm) : mgS l = (fsM l).map (wth l) := by
  induction l using snoc_ind with
  | h0 => rfl
  | h1 l x ih =>
    rw [mgS_snoc, fsM_snoc, ih]
    unfold addM
    cases e : ((fsM l).map (wth l)).findIdx? (same x) with
    | none =>
      rw [List.findIdx?_eq_none_iff] at e
      have h : (fsM l).any (same x) = false := by
        rw [List.any_eq_false]
        intro y hy
        have := e (wth l y) (List.mem_map_of_mem hy)
        rw [same_wth] at this
        simp [this]
      rw [if_neg (by simp [h]), List.map_append]
      have e1 : (fsM l).map (wth l) = (fsM l).map (wth (l ++ [x])) := by
        refine List.map_congr_left fun y hy => ?_
        unfold wth
        rw [tot_append]
        have : same y x = false := by
          cases k : same y x with
          | false => rfl
          | true =>
            rw [List.any_eq_false] at h
            exact absurd (same_symm k) (h y hy)
        simp [tot, this]
      have e2 : wth (l ++ [x]) x = x := by
        unfold wth
        rw [tot_append, tot_none (by rw [← any_fsM]; exact h)]
        simp [tot, same_refl]
      rw [← e1, List.map_cons, List.map_nil, e2]
    | some k =>
      rw [List.findIdx?_eq_some_iff_getElem] at e
      obtain ⟨hk, hs, hno⟩ := e
      have hk' : k < (fsM l).length := by simpa using hk
      rw [List.getElem_map, same_wth] at hs
      have h : (fsM l).any (same x) = true := List.any_eq_true.2 ⟨_, List.getElem_mem hk', hs⟩
      rw [if_pos h]
      show ((fsM l).map (wth l)).set k _ = _
      refine List.ext_getElem (by simp) fun i h1 h2 => ?_
      have hi : i < (fsM l).length := by simpa using h2
      rw [List.getElem_set]
      by_cases c : k = i
      · subst c
        simp only [if_true, List.getElem_map, List.getD_eq_getElem?_getD, List.getElem?_map, List.getElem?_eq_getElem hk', Option.map_some, Option.getD_some]
        unfold wth
        simp only [tot_append, tot, Int.add_zero, if_pos (same_symm hs)]
      · simp only [if_neg c, List.getElem_map]
        unfold wth
        have : same (fsM l)[i] x = false := by
          cases q : same (fsM l)[i] x with
          | false => rfl
          | true => exact absurd (ndM_at (fsM_nd l) hk' hi (same_trans (same_symm hs) (same_symm q))) c
        simp only [tot_append, tot, this]
        simp
def outB (x : Itm) : Bool := !amB x.am
/-- the merged bill, and the error -/
def mgO (l : List Itm) : List Itm := (mgS l).filter fun x => decide (x.am ≠ 0)
def mgE (l : List Itm) : Int := if (mgS l).any outB = true then 5 else 0
def mgL (l : List Itm) : List Itm := if mgE l = 0 then mgO l else []
theorem ndM_map {f : Itm → Itm} (hf : ∀ x y, same (f x) (f y) = same x y) : ∀ {l : List Itm}, ndM l → ndM (l.map f)
  | [], _ => trivial
  | x :: l, h => by
    refine ⟨?_, ndM_map hf h.2⟩
    rw [List.any_map]
    have : (same (f x) ∘ f) = same x := by funext y; exact hf x y
    rw [this]; exact h.1
theorem ndM_filter {p : Itm → Bool} : ∀ {l : List Itm}, ndM l → ndM (l.filter p)
  | [], _ => trivial
  | x :: l, h => by
    rw [List.filter_cons]
    split
    · refine ⟨?_, ndM_filter h.2⟩
      rw [List.any_eq_false]
      intro y hy
      have := h.1
      rw [List.any_eq_false] at this
      exact this y (List.mem_filter.1 hy).1
    · exact ndM_filter h.2
theorem mgS_nd (l : List Itm) : ndM (mgS l) := by rw [mgS_eq]; exact ndM_map (f := wth l) (fun _ _ => rfl) (fsM_nd l)
theorem mgS_mem {l : List Itm} {x : Itm} (h : x ∈ mgS l) : x.am = tot x l ∧ ∃ y ∈ l, same y x = true := by
  rw [mgS_eq] at h
  obtain ⟨y, hy, rfl⟩ := List.mem_map.1 h
  refine ⟨(tot_congr (show same (wth l y) y = true from same_iff.2 ⟨rfl, rfl⟩) l).symm, ?_⟩
  have : (fsM l).any (same y) = true := List.any_eq_true.2 ⟨y, hy, same_refl y⟩
  rw [any_fsM] at this
  obtain ⟨z, hz, hs⟩ := List.any_eq_true.1 this
  exact ⟨z, hz, same_symm hs⟩
theorem mgS_has {l : List Itm} {y : Itm} (h : y ∈ l) : ∃ x ∈ mgS l, same y x = true ∧ x.am = tot y l := by
  have : l.any (same y) = true := List.any_eq_true.2 ⟨y, h, same_refl y⟩
  rw [← any_fsM] at this
  obtain ⟨z, hz, hs⟩ := List.any_eq_true.1 this
  exact ⟨wth l z, by rw [mgS_eq]; exact List.mem_map_of_mem hz, hs, (tot_congr hs l).symm⟩
theorem fsM_len (l : List Itm) : (fsM l).length ≤ l.length := by
  induction l using snoc_ind with
  | h0 => simp [fsM]
  | h1 l x ih =>
    rw [fsM_snoc, List.length_append, List.length_singleton]
    split
    · omega
    · simp; omega
theorem mgS_len (l : List Itm) : (mgS l).length ≤ l.length := by rw [mgS_eq, List.length_map]; exact fsM_len l
theorem mgO_len (l : List Itm) : (mgO l).length ≤ l.length := Nat.le_trans (List.length_filter_le _ _) (mgS_len l)
/-- sums of costs -/
theorem csS_set : ∀ (s : List Itm) (k : Nat) (h : k < s.length) (z : Itm), csS (s.set k z) = csS s - s[k].am * s[k].pr + z.am * z.pr
  | [], _, h, _ => by simp at h
  | x :: s, 0, _, z => by simp only [List.set_cons_zero, csS, List.getElem_cons_zero]; omega
  | x :: s, k + 1, h, z => by
    simp only [List.set_cons_succ, csS, List.getElem_cons_succ, csS_set s k (by simpa using h) z]; omega
theorem csS_addM (s : List Itm) (x : Itm) : csS (addM s x) = csS s + x.am * x.pr := by
  unfold addM
  cases e : s.findIdx? (same x) with
  | none => rw [csS_append]; simp [csS]
  | some k =>
    rw [List.findIdx?_eq_some_iff_getElem] at e
    obtain ⟨hk, hs, _⟩ := e
    have := (same_iff.1 hs).2
    show csS (s.set k _) = _
    rw [csS_set s k hk]
    simp only [List.getD_eq_getElem?_getD, List.getElem?_eq_getElem hk, Option.getD_some]
    rw [Int.add_mul, this]; omega
theorem csS_mgS (l : List Itm) : csS (mgS l) = csS l := by
  induction l using snoc_ind with
  | h0 => rfl
  | h1 l x ih => rw [mgS_snoc, csS_addM, ih, csS_append]; simp [csS]
theorem csS_filter : ∀ l : List Itm, csS (l.filter fun x => decide (x.am ≠ 0)) = csS l
  | [] => rfl
  | x :: l => by
    rw [List.filter_cons]
    split
    · simp only [csS, csS_filter l]
    · rename_i h
      have : x.am = 0 := by simpa using h
      rw [csS_filter l]; simp [csS, this]
theorem csS_mgO (l : List Itm) : csS (mgO l) = csS l := by unfold mgO; rw [csS_filter, csS_mgS]
theorem addM_new {s : List Itm} {x : Itm} (h : s.any (same x) = false) : addM s x = s ++ [x] := by
  unfold addM
  have : s.findIdx? (same x) = none := by
    rw [List.findIdx?_eq_none_iff]
    rw [List.any_eq_false] at h
    intro y hy
    simpa using h y hy
  rw [this]
theorem ndM_app : ∀ {a b : List Itm}, ndM (a ++ b) → ndM a ∧ ndM b ∧ ∀ x ∈ b, a.any (same x) = false
  | [], _, h => ⟨trivial, h, fun _ _ => rfl⟩
  | y :: a, b, h => by
    obtain ⟨h1, h2⟩ := h
    obtain ⟨k1, k2, k3⟩ := ndM_app h2
    have h1 : (a ++ b).any (same y) = false := h1
    rw [List.any_append, Bool.or_eq_false_iff] at h1
    refine ⟨⟨h1.1, k1⟩, k2, fun x hx => ?_⟩
    rw [List.any_cons, k3 x hx, Bool.or_false]
    cases e : same x y with
    | false => rfl
    | true =>
      have := h1.2
      rw [List.any_eq_false] at this
      exact absurd (same_symm e) (this x hx)
theorem mgS_id (l : List Itm) (h : ndM l) : mgS l = l := by
  induction l using snoc_ind with
  | h0 => rfl
  | h1 l x ih =>
    obtain ⟨h1, _, h3⟩ := ndM_app h
    rw [mgS_snoc, ih h1, addM_new (h3 x (List.mem_singleton.2 rfl))]
theorem mgO_id (l : List Itm) : mgO (mgO l) = mgO l := by
  have e : mgS (mgO l) = mgO l := mgS_id _ (ndM_filter (mgS_nd l))
  have e2 : mgO (mgO l) = (mgS (mgO l)).filter fun x => decide (x.am ≠ 0) := rfl
  rw [e2, e]
  unfold mgO
  rw [List.filter_filter]
  congr 1
  funext x; simp
theorem mgE_cases (l : List Itm) : mgE l = 0 ∨ mgE l = 5 := by unfold mgE; split <;> simp
theorem mgE_ok {l : List Itm} (h : mgE l = 0) {x : Itm} (hx : x ∈ mgS l) : -1073741824 ≤ x.am ∧ x.am ≤ 1073741824 := by
  unfold mgE at h
  by_cases k : (mgS l).any outB = true
  · rw [if_pos k] at h; cases h
  · have : outB x = false := by
      have k : (mgS l).any outB = false := by simpa using k
      rw [List.any_eq_false] at k
      simpa using k x hx
    simpa [outB, amB] using this
theorem mgO_it {l : List Itm} (hv : ∀ x ∈ l, itB x = true) (h : mgE l = 0) : ∀ x ∈ mgO l, itB x = true := by
  intro x hx
  have hx' := (List.mem_filter.1 hx).1
  have b := mgE_ok h hx'
  obtain ⟨_, y, hy, hs⟩ := mgS_mem hx'
  have q := hv y hy
  obtain ⟨e1, e2⟩ := same_iff.1 hs
  simp only [itB, amB, prcB, Bool.and_eq_true, decide_eq_true_eq] at q ⊢
  rw [e1, e2]
  exact ⟨⟨q.1.1, b⟩, q.2⟩
theorem mgO_v {l : List Itm} (hv : vI l = true) (h : mgE l = 0) : vI (mgO l) = true := by
  obtain ⟨h1, h2⟩ := vI_iff.1 hv
  exact vI_iff.2 ⟨Nat.le_trans (mgO_len l) h1, mgO_it h2 h⟩
theorem mgE_again {l : List Itm} (h : mgE l = 0) : mgE (mgO l) = 0 := by
  have e : mgS (mgO l) = mgO l := mgS_id _ (ndM_filter (mgS_nd l))
  unfold mgE
  rw [e, if_neg]
  intro k
  obtain ⟨x, hx, ho⟩ := List.any_eq_true.1 k
  have b := mgE_ok h (List.mem_filter.1 hx).1
  simp [outB, amB] at ho
  omega
/-- the opposite bill -/
def oppI (x : Itm) : Itm := ⟨x.nm, -x.am, x.pr⟩
def oppL (l : List Itm) : List Itm := l.map oppI
theorem csS_opp : ∀ l : List Itm, csS (oppL l) = -csS l
  | [] => rfl
  | x :: l => by
    have := csS_opp l
    simp only [oppL, List.map_cons, csS, oppI] at this ⊢
    rw [this, Int.neg_mul]; omega
theorem tot_opp (x : Itm) : ∀ l : List Itm, tot x (oppL l) = -tot x l
  | [] => rfl
  | y :: l => by
    have i := tot_opp x l
    simp only [oppL, List.map_cons, tot] at i ⊢
    rw [i]
    have : same x (oppI y) = same x y := rfl
    rw [this]
    have e : (oppI y).am = -y.am := rfl
    rw [e]
    split <;> omega
theorem mgO_self (a : List Itm) : mgO (a ++ oppL a) = [] := by
  unfold mgO
  rw [List.filter_eq_nil_iff]
  intro x hx
  have := (mgS_mem hx).1
  rw [tot_append, tot_opp] at this
  have e : x.am = 0 := by omega
  rw [e]; simp
theorem itB_opp {x : Itm} (h : itB x = true) : itB (oppI x) = true := by
  obtain ⟨⟨h1, h2⟩, _⟩ := itB_bd h
  have e : amB (oppI x).am = true := by
    show (decide (-1073741824 ≤ -x.am) && decide (-x.am ≤ 1073741824)) = true
    rw [decide_eq_true (by omega), decide_eq_true (by omega)]; rfl
  unfold itB at h ⊢
  rw [e]
  rw [Bool.and_eq_true, Bool.and_eq_true] at h
  rw [show nameB (oppI x).nm.data.toList = true from h.1.1, show prcB (oppI x).pr = true from h.2]; rfl
/-- the reference's merged bill: the first items, one by one -/
def itA (l : List Itm) (i : Nat) : Itm := l.getD i ⟨⟨#[]⟩, 0, 0⟩
theorem itA_at {l : List Itm} {i : Nat} (h : i < l.length) : itA l i = l[i] := by simp [itA, h]
def fstB (l : List Itm) (i : Nat) : Bool := !((l.take i).any (same (itA l i)))
def rfL (l : List Itm) : Nat → List Itm
  | 0 => []
  | i + 1 => rfL l i ++ if (fstB l i && decide (tot (itA l i) l ≠ 0)) = true then [wth l (itA l i)] else []
theorem rfL_eq (l : List Itm) : ∀ i, i ≤ l.length → rfL l i = ((fsM (l.take i)).map (wth l)).filter fun x => decide (x.am ≠ 0)
  | 0, _ => rfl
  | i + 1, h => by
    have e : l.take (i + 1) = l.take i ++ [itA l i] := by rw [List.take_succ_eq_append_getElem (by omega), itA_at (by omega)]
    rw [e, fsM_snoc]
    simp only [rfL, rfL_eq l i (by omega), any_fsM]
    by_cases c : (l.take i).any (same (itA l i)) = true
    · have f : fstB l i = false := by unfold fstB; rw [c]; rfl
      rw [if_pos c, f]; simp
    · rw [if_neg c, List.map_append, List.filter_append, List.map_cons, List.map_nil]
      have f : fstB l i = true := by unfold fstB; simp [c]
      congr 1
      rw [f, List.filter_cons]
      by_cases z : tot (itA l i) l = 0 <;> simp [wth, z]
theorem rfL_all (l : List Itm) : rfL l l.length = mgO l := by rw [rfL_eq l _ (Nat.le_refl _), List.take_length, mgO, mgS_eq]
theorem rfE_yes {l : List Itm} {i : Nat} (hi : i < l.length) (h : amB (tot (itA l i) l) = false) : mgE l = 5 := by
  unfold mgE
  rw [if_pos]
  rw [itA_at hi] at h
  obtain ⟨x, hx, _, e⟩ := mgS_has (List.getElem_mem hi)
  exact List.any_eq_true.2 ⟨x, hx, by unfold outB; rw [e, h]; rfl⟩
theorem rfE_no {l : List Itm} (h : ∀ i, i < l.length → amB (tot (itA l i) l) = true) : mgE l = 0 := by
  unfold mgE
  rw [if_neg]
  intro k
  obtain ⟨x, hx, ho⟩ := List.any_eq_true.1 k
  obtain ⟨e, y, hy, hs⟩ := mgS_mem hx
  obtain ⟨i, hi, rfl⟩ := List.mem_iff_getElem.1 hy
  have := h i hi
  rw [itA_at hi, tot_congr hs] at this
  unfold outB at ho
  rw [e, this] at ho
  cases ho
/-- amounts of the items like one among the first ones -/
def totN (l : List Itm) (x : Itm) (k : Nat) : Int := tot x (l.take k)
theorem totN_zero (l : List Itm) (x : Itm) : totN l x 0 = 0 := rfl
theorem totN_succ {l : List Itm} (x : Itm) {k : Nat} (h : k < l.length) : totN l x (k + 1) = totN l x k + if same x l[k] = true then l[k].am else 0 := by
  unfold totN
  rw [List.take_succ_eq_append_getElem h, tot_append]
  simp [tot]
theorem totN_all (l : List Itm) (x : Itm) : totN l x l.length = tot x l := by unfold totN; rw [List.take_length]
/-- among the first k items none before the i-th one is like it -/
def fst2 (l : List Itm) (i k : Nat) : Bool := !((l.take (min i k)).any (same (itA l i)))
theorem fst2_zero (l : List Itm) (i : Nat) : fst2 l i 0 = true := by simp [fst2]
theorem fst2_succ {l : List Itm} {i k : Nat} (h : k < l.length) : fst2 l i (k + 1) = (fst2 l i k && (!same (itA l i) l[k] || decide (i ≤ k))) := by
  unfold fst2
  by_cases c : i ≤ k
  · rw [show min i (k + 1) = i by omega, show min i k = i by omega]; simp [c]
  · rw [show min i (k + 1) = k + 1 by omega, show min i k = k by omega, List.take_succ_eq_append_getElem h, List.any_append]
    simp [c]
theorem fst2_all {l : List Itm} {i : Nat} (h : i < l.length) : fst2 l i l.length = fstB l i := by unfold fst2 fstB; rw [show min i l.length = i by omega]
end Go.Proofs.YtlnlaopokelggaaGreatDoor

namespace Go.Proofs.YtlnlaopokelggaaGreatDoor
open Go Go.Lib

/-- an item by its words -/
def cnvB (ws : List (List UInt8)) : Bool := match ws with
  | [a, b, c] => nameB a && ctB b && ctB c
  | _ => false
def cnvC (ws : List (List UInt8)) : Itm := match ws with
  | [a, b, c] => ⟨⟨a.toArray⟩, ctV b, ctV c⟩
  | _ => ⟨⟨#[]⟩, 0, 0⟩
def clB (l : List UInt8) : Bool := cnvB (pts 32 l)
def clC (l : List UInt8) : Itm := cnvC (pts 32 l)
def doneE (acc : List Itm) : Int := if vI acc then 0 else 1
def doneL (acc : List Itm) : List Itm := if vI acc then acc else []
/-- what is read of parts: the list, the line of an error (0: none), and the error -/
def prs : List (List UInt8) → Nat → List Itm → List Itm × Int × Int
  | [], _, acc => (doneL acc, 0, doneE acc)
  | [p], i, acc => if p = [] then (doneL acc, 0, doneE acc) else ([], (i : Int) + 1, 7)
  | p :: q :: r, i, acc => if clB p = true then prs (q :: r) (i + 1) (acc ++ [clC p]) else ([], (i : Int) + 1, 7)
/-- the same, of lines -/
def prsL : List (List UInt8) → Nat → List Itm → List Itm × Int × Int
  | [], _, acc => (doneL acc, 0, doneE acc)
  | x :: r, i, acc => if clB (bodyL x) = true ∧ endB x = true then prsL r (i + 1) (acc ++ [clC (bodyL x)]) else ([], (i : Int) + 1, 7)
theorem prs_lines : ∀ (ps : List (List UInt8)), (∀ p ∈ ps, (10 : UInt8) ∉ p) → ∀ i acc, prs ps i acc = prsL (lnsOf ps) i acc
  | [], _, _, _ => rfl
  | [p], h, i, acc => by
    rw [prs, lnsOf]
    by_cases hp : p = []
    · rw [if_pos hp, if_pos hp]; rfl
    · rw [if_neg hp, if_neg hp, prsL, end_no (h p (List.mem_cons_self ..))]
      simp
  | p :: q :: r, h, i, acc => by
    rw [prs, lnsOf, prsL, (end_yes p).1, (end_yes p).2, prs_lines (q :: r) (fun x hx => h x (List.mem_cons_of_mem _ hx))]
    simp
theorem prs_lns (s : List UInt8) : prs (pts 10 s) 0 [] = prsL (lns s) 0 [] := prs_lines _ (fun p hp => pts_mem p hp) 0 []
/-- the text of an item, without the line's end; of a bill -/
def txC (x : Itm) : List UInt8 := x.nm.data.toList ++ (32 :: itoa x.am) ++ (32 :: itoa x.pr)
def txL : List Itm → List UInt8
  | [] => []
  | c :: r => txC c ++ 10 :: txL r
theorem txL_append (a b : List Itm) : txL (a ++ b) = txL a ++ txL b := by
  induction a with
  | nil => rfl
  | cons c a ih => simp [txL, ih]
theorem txL_take {l : List Itm} {k : Nat} (h : k < l.length) : txL (l.take (k + 1)) = txL (l.take k) ++ (txC l[k] ++ [10]) := by
  rw [List.take_succ_eq_append_getElem h, txL_append]; rfl
theorem name_no {c : UInt8} (h : c.toNat < 48) {l : List UInt8} (hl : nameB l = true) : c ∉ l := by
  cases l with
  | nil => simp
  | cons x r =>
    simp only [nameB, Bool.and_eq_true, decide_eq_true_eq] at hl
    have hw := hl.2
    have hall : ∀ y ∈ x :: r, wdB (y.toNat : Int) = true := by
      unfold wl at hw
      have e : ((x :: r).takeWhile fun b => wdB (b.toNat : Int)) = x :: r := List.IsPrefix.eq_of_length (List.takeWhile_prefix _) (by simpa using hw)
      have ha : ((x :: r).takeWhile fun b => wdB (b.toNat : Int)).all (fun b => wdB (b.toNat : Int)) = true := List.all_takeWhile
      rw [e, List.all_eq_true] at ha
      exact ha
    intro e
    have := hall c e
    simp only [wdB, letB, digB, Bool.or_eq_true, decide_eq_true_eq, beq_iff_eq] at this
    omega
theorem itB_nm {x : Itm} (h : itB x = true) : nameB x.nm.data.toList = true := by
  simp only [itB, Bool.and_eq_true] at h
  exact h.1.1
theorem pts_txC {c : Itm} (h : itB c = true) : pts 32 (txC c) = [c.nm.data.toList, itoa c.am, itoa c.pr] := by
  have hn := itB_nm h
  have e : txC c = c.nm.data.toList ++ 32 :: (itoa c.am ++ 32 :: itoa c.pr) := by simp [txC]
  rw [e, pts_at (name_no (by decide) hn), pts_at (itoa_no (by decide) _), pts_no (itoa_no (by decide) _)]
theorem txC_no {c : Itm} (h : itB c = true) : (10 : UInt8) ∉ txC c := by
  have hn := itB_nm h
  have h0 := name_no (c := 10) (by decide) hn
  have h1 := itoa_no (c := 10) (by decide) c.am
  have h2 := itoa_no (c := 10) (by decide) c.pr
  simp [txC, h0, h1, h2]
theorem cl_txC {c : Itm} (h : itB c = true) : clB (txC c) = true ∧ clC (txC c) = c := by
  have hn := itB_nm h
  obtain ⟨⟨h1, h2⟩, h3, h4⟩ := itB_bd h
  obtain ⟨a1, b1⟩ := ct_itoa (n := c.am) (by omega) (by omega)
  obtain ⟨a2, b2⟩ := ct_itoa (n := c.pr) (by omega) (by omega)
  unfold clB clC
  rw [pts_txC h]
  refine ⟨by simp [cnvB, hn, a1, a2], ?_⟩
  simp only [cnvC, b1, b2]
/-- a bill is read from its text -/
theorem prs_txL : ∀ (l acc : List Itm) (i : Nat), (∀ c ∈ l, itB c = true) → prs (pts 10 (txL l)) i acc = (doneL (acc ++ l), 0, doneE (acc ++ l))
  | [], acc, i, _ => by simp [txL, pts, prs]
  | c :: r, acc, i, h => by
    have hc := h c (List.mem_cons_self ..)
    have ih := prs_txL r (acc ++ [c]) (i + 1) (fun x hx => h x (List.mem_cons_of_mem _ hx))
    rw [txL, pts_at (txC_no hc)]
    cases hp : pts 10 (txL r) with
    | nil => exact absurd hp (pts_ne 10 _)
    | cons q t =>
      rw [hp] at ih
      rw [prs, (cl_txC hc).1, if_pos rfl, (cl_txC hc).2, ih, List.append_assoc]
      rfl
theorem lns_txL : ∀ (l : List Itm), (∀ c ∈ l, itB c = true) → (lns (txL l)).length = l.length
  | [], _ => rfl
  | c :: r, h => by
    rw [txL, lns_at (txC_no (h c (List.mem_cons_self ..))), List.length_cons, lns_txL r (fun x hx => h x (List.mem_cons_of_mem _ hx)), List.length_cons]
theorem name_len {l : List UInt8} (h : nameB l = true) : l.length ≤ 20 := by
  cases l with
  | nil => simp
  | cons x r =>
    simp only [nameB, Bool.and_eq_true, decide_eq_true_eq] at h
    have := h.1.1
    rw [List.length_cons]; exact this
theorem txC_len {c : Itm} (h : itB c = true) : (txC c).length ≤ 64 := by
  have hn := name_len (itB_nm h)
  obtain ⟨⟨h1, h2⟩, h3, h4⟩ := itB_bd h
  have l1 := itoa_length_le c.am (by omega) (by omega)
  have l2 := itoa_length_le c.pr (by omega) (by omega)
  simp only [txC, List.length_append, List.length_cons]
  omega
theorem txL_len : ∀ {l : List Itm}, (∀ c ∈ l, itB c = true) → (txL l).length ≤ 65 * l.length
  | [], _ => by simp [txL]
  | c :: r, h => by
    have h1 := txC_len (h c (List.mem_cons_self ..))
    have h2 := txL_len (l := r) (fun x hx => h x (List.mem_cons_of_mem _ hx))
    simp only [txL, List.length_append, List.length_cons]
    omega
/-- the number of lines, as the reference counts them -/
def lnN : List UInt8 → Nat
  | [] => 0
  | [_] => 1
  | c :: d :: r => (if c = 10 then 1 else 0) + lnN (d :: r)
theorem lnN_lns : ∀ s : List UInt8, lnN s = (lns s).length
  | [] => rfl
  | [c] => by
    by_cases h : c = 10
    · subst h; rfl
    · rw [lns_one (by simp; exact fun e => h e.symm) (by simp)]; rfl
  | c :: d :: r => by
    have ih := lnN_lns (d :: r)
    rw [lnN, ih]
    by_cases h : c = 10
    · subst h
      have := lns_at (a := []) (r := d :: r) (by simp)
      rw [List.nil_append] at this
      rw [if_pos rfl, this, List.length_cons, Nat.add_comm]
    · rw [if_neg h, Nat.zero_add]
      unfold lns
      have hj := jn_pts 10 (d :: r)
      rw [show pts 10 (c :: d :: r) = match pts 10 (d :: r) with | [] => [[c]] | h :: t => (c :: h) :: t from by rw [pts, if_neg h]; rfl]
      cases hp : pts 10 (d :: r) with
      | nil => exact absurd hp (pts_ne 10 _)
      | cons q t =>
        rw [hp] at hj
        cases t with
        | nil =>
          have hq : q ≠ [] := by
            intro e
            subst e
            cases hj
          show (lnsOf [q]).length = (lnsOf [c :: q]).length
          rw [lnsOf, lnsOf, if_neg hq, if_neg (by simp)]
          rfl
        | cons u t => rfl
def prsF (s : List UInt8) : List Itm × Int × Int := if 262144 < s.length ∨ 1000 < (lns s).length then ([], 0, 4) else prs (pts 10 s) 0 []
theorem read_text {l : List Itm} (h : vI l = true) : prsF (txL l) = (l, 0, 0) := by
  have hv := vI_iff.1 h
  have hl := txL_len hv.2
  unfold prsF
  rw [if_neg (by rw [lns_txL l hv.2]; omega), prs_txL l [] 0 hv.2, List.nil_append, doneL, doneE, if_pos h, if_pos h]
def txR (l : List Itm) : List UInt8 := if vI l = true then txL l else []
def txE (l : List Itm) : Int := if vI l = true then 0 else 1
theorem tx_good {l : List Itm} (h : vI l = true) : txR l = txL l ∧ txE l = 0 := by simp [txR, txE, h]
theorem tx_bad {l : List Itm} (h : vI l = false) : txR l = [] ∧ txE l = 1 := by simp [txR, txE, h]
/-- no error, then no line; an error, then nothing is read -/
theorem prs_err : ∀ (ps : List (List UInt8)) (i : Nat) (acc : List Itm), ((prs ps i acc).2.2 = 0 → (prs ps i acc).2.1 = 0) ∧ ((prs ps i acc).2.2 ≠ 0 → (prs ps i acc).1 = []) ∧ 0 ≤ (prs ps i acc).2.1 ∧ (prs ps i acc).2.1 ≤ i + ps.length ∧ 0 ≤ (prs ps i acc).2.2 ∧ (prs ps i acc).2.2 ≤ 7
  | [], i, acc => by
    rw [prs]
    unfold doneL doneE
    split <;> simp <;> omega
  | [p], i, acc => by
    rw [prs]
    unfold doneL doneE
    split
    · split <;> simp <;> omega
    · simp; omega
  | p :: q :: r, i, acc => by
    have ih := prs_err (q :: r) (i + 1) (acc ++ [clC p])
    rw [prs]
    split
    · refine ⟨ih.1, ih.2.1, ih.2.2.1, ?_, ih.2.2.2.2⟩
      have := ih.2.2.2.1
      simp at this ⊢
      omega
    · simp; omega
end Go.Proofs.YtlnlaopokelggaaGreatDoor
