/- Parts of one proof, joined: The program's Check of too big surfaces, and Valid: whether a surface is valid; nothing that was there is turned. What a name is, said of lists of bytes: letters, digits, how many bytes at the beginning are those of a word. The program's IsName: it reports whether a string is a name, for every string; it leaves the world as it is. Classes of land use in memory, and when a list of them is valid, said of lists. landuse.Valid and the reference's Valid: both report whether a list of classes is valid, for every list; nothing that was there is turned. The program's Change: the surface with another class, and how many faces; or the error; nothing that was there is turned. -/
import Derived.Test.YtaaadejamjbcbaaGreatDoorPkLanduseWhole7
import Derived.Test.YtaaadejamjbcbaaGreatDoorPkLanduseWhole2
import Derived.Deep.RegionWith
namespace Go.Proofs.YtaaadejamjbcbaaGreatDoor
open Go Go.RowKit

theorem big_vM {m : Msh} (h : smB m = false) : vM m = false := by simp [vM, h]
set_option maxRecDepth 100000 in
set_option maxHeartbeats 1000000 in
theorem mscheck_big (m : Msh) (a : MshA) (w : World) (h : smB m = false) :
    Calls Tryz.prog 43 #[m.val a] w fun e w' => e = .returned (.tuple #[.slice none 0 0, .int .i64 4]) ∧ Below w.heap.size w w' := by
  obtain ⟨ss, fs⟩ := m
  obtain ⟨A1, c1, A2, c2⟩ := a
  have X := (Own.start w).alloc #[.slice A1 ss.length c1, .slice A2 fs.length c2] 25
  have hr := X.r1
  have SM := hide (fun W => mssmall_any ⟨ss, fs⟩ ⟨A1, c1, A2, c2⟩ W)
  rw [h] at SM
  unfold RetW at SM
  clear h
  go_enter Tryz.func43, Tryz.ntmps43
  go_wp2_with fail
  refine (SM.out _).mono ?_
  rintro e w1 ⟨rfl, hb⟩
  replace X := X.to hb
  clear hr hb
  have XB := X.1
  go_wp2
  exact bodyPost_ret (v := .tuple #[.slice none 0 0, .int .i64 4]) (by simp [results, Tryz.results43, go_sem]) rfl ⟨rfl, XB⟩
set_option maxHeartbeats 1000000 in
theorem msvalid_any (m : Msh) (a : MshA) (w : World) (hm : MshSl w m a) (ht : Lib.TabIs Tryz.prog w "internal/strconv.uint64pow10" .u64 Lib.pow10Tab) : Calls Tryz.prog 22 #[m.val a] w (RetW (.bool (vM m)) w) := by
  have X := (Own.start w).alloc (m.cells a) 25
  have hr := X.r1
  have HM := hide (hm.below X.1)
  have HT := hide (tab_below ht X.1)
  cases h : smB m with
  | false =>
    have CK := hide (fun W => mscheck_big m a W h)
    rw [big_vM h]
    clear h hm ht
    go_enter Tryz.func22, Tryz.ntmps22
    go_wp2_with fail
    refine (CK.out _).mono ?_
    rintro e w1 ⟨rfl, hb⟩
    replace X := X.to hb
    clear hr hb
    have XB := X.1
    go_wp2
    go_ret
    exact ⟨rfl, XB⟩
  | true =>
    obtain ⟨ss, fs⟩ := m
    obtain ⟨A1, c1, A2, c2⟩ := a
    have hs : ss.length ≤ 2000 ∧ fs.length ≤ 4000 := by simpa [smB] using h
    have CK := hide (mscheck_any ss fs A1 A2 c1 c2 _ HM.out hs.1 hs.2 HT.out)
    clear h hm ht hs
    go_enter Tryz.func22, Tryz.ntmps22
    go_wp2_with fail
    refine CK.out.mono ?_
    rintro e w1 ⟨⟨A, N, c, rfl, hN⟩, hb⟩
    replace X := X.to hb
    clear hr hb CK HM HT
    have XB := X.1
    by_cases h0 : N = 0
    · have hv := hide (hN.1 h0)
      subst h0
      clear hN
      go_wp2
      go_ret
      exact ⟨ret_bool hv.out.symm, XB⟩
    · have hv : Hid (vM ⟨ss, fs⟩ = false) := hide (by
        cases e : vM ⟨ss, fs⟩ with
        | true => exact absurd (hN.2 e) h0
        | false => rfl)
      have q : ((N : Int) == 0) = false := beq_eq_false_iff_ne.2 (by omega)
      clear hN h0
      go_wp2
      go_ret
      exact ⟨ret_bool hv.out.symm, XB⟩
end Go.Proofs.YtaaadejamjbcbaaGreatDoor

namespace Go.Proofs.YtaaadejamjbcbaaGreatDoor
open Go.RowKit

def letB (c : Int) : Bool := decide ((97 ≤ c ∧ c ≤ 122) ∨ (65 ≤ c ∧ c ≤ 90))
def digB (c : Int) : Bool := decide (48 ≤ c ∧ c ≤ 57)
def wdB (c : Int) : Bool := letB c || digB c || c == 95
/-- how many bytes at the beginning are those of a word -/
def wl (l : List UInt8) : Nat := (l.takeWhile fun b => wdB (b.toNat : Int)).length
/-- whether a list of bytes is a name -/
def nameB (l : List UInt8) : Bool :=
  match l with
  | [] => false
  | c :: r => decide (r.length + 1 ≤ 20) && letB (c.toNat : Int) && decide (wl (c :: r) = r.length + 1)
theorem wl_le (l : List UInt8) : wl l ≤ l.length := by unfold wl; exact (List.takeWhile_sublist _).length_le
theorem wl_nil : wl [] = 0 := rfl
theorem wl_cons (c : UInt8) (l : List UInt8) : wl (c :: l) = if wdB (c.toNat : Int) = true then wl l + 1 else 0 := by
  unfold wl
  by_cases h : wdB (c.toNat : Int) = true <;> simp [h]
theorem drop_byte (s : ByteArray) (k : Nat) (h : k < s.size) : s.data.toList.drop k = s[k] :: s.data.toList.drop (k + 1) := by
  rw [List.drop_eq_getElem_cons (by simpa using h)]; rfl
theorem wl_at (s : ByteArray) (k : Nat) (h : k < s.size) (hk : wl s.data.toList = k + wl (s.data.toList.drop k)) :
    if wdB (s[k].toNat : Int) = true then wl s.data.toList = k + 1 + wl (s.data.toList.drop (k + 1)) else wl s.data.toList = k := by
  rw [drop_byte s k h, wl_cons] at hk
  split <;> rename_i hw
  · rw [if_pos hw] at hk; omega
  · rw [if_neg hw] at hk; omega
theorem wl_end (s : ByteArray) (hk : wl s.data.toList = s.size + wl (s.data.toList.drop s.size)) : wl s.data.toList = s.size := by
  rw [List.drop_of_length_le (by simp), wl_nil] at hk; exact hk
theorem nameB_nil (s : ByteArray) (h : s.size = 0) : nameB s.data.toList = false := by
  have : s.data.toList = [] := by apply List.eq_nil_of_length_eq_zero; simpa using h
  rw [this]; rfl
theorem nameB_at (s : ByteArray) (h : 0 < s.size) : nameB s.data.toList = (decide (s.size ≤ 20) && letB (s[0].toNat : Int) && decide (wl s.data.toList = s.size)) := by
  have h0 := drop_byte s 0 h
  rw [List.drop_zero] at h0
  have hl : s.size = (s.data.toList.drop (0 + 1)).length + 1 := by simp; omega
  have e : nameB s.data.toList = nameB (s[0] :: s.data.toList.drop (0 + 1)) := by rw [← h0]
  rw [e]
  have hw : wl s.data.toList = wl (s[0] :: s.data.toList.drop (0 + 1)) := by rw [← h0]
  rw [hw, hl]
  rfl
theorem size_of_nameB (s : ByteArray) (h : nameB s.data.toList = true) : 0 < s.size ∧ s.size ≤ 20 := by
  by_cases h0 : s.size = 0
  · rw [nameB_nil s h0] at h; cases h
  · rw [nameB_at s (by omega)] at h
    simp only [Bool.and_eq_true, decide_eq_true_eq] at h
    omega
theorem byte_bd (c : UInt8) : 0 ≤ (c.toNat : Int) ∧ (c.toNat : Int) ≤ 255 := by have := c.toNat_lt; omega
end Go.Proofs.YtaaadejamjbcbaaGreatDoor

namespace Go.Proofs.YtaaadejamjbcbaaGreatDoor
open Go.RowKit

set_option maxHeartbeats 400000 in
theorem letter_any (c : Int) (w : World) : Calls Tryz.prog 62 #[.int .u8 c] w fun e w' => e = .returned (.bool (letB c)) ∧ w = w' := by
  by_cases h1 : 97 ≤ c <;> by_cases h2 : c ≤ 122 <;> by_cases h3 : 65 ≤ c <;> by_cases h4 : c ≤ 90
  all_goals
    go_enter Tryz.func62, Tryz.ntmps62
    go_wp2
    go_ret
    refine ⟨ret_bool ?_, rfl⟩
    simp [letB, h1, h2, h3, h4]
set_option maxHeartbeats 400000 in
theorem digit_any (c : Int) (w : World) : Calls Tryz.prog 85 #[.int .u8 c] w fun e w' => e = .returned (.bool (digB c)) ∧ w = w' := by
  by_cases h1 : 48 ≤ c <;> by_cases h2 : c ≤ 57
  all_goals
    go_enter Tryz.func85, Tryz.ntmps85
    go_wp2
    go_ret
    refine ⟨ret_bool ?_, rfl⟩
    simp [digB, h1, h2]
theorem wd_let {c : Int} (h : letB c = true) : wdB c = true := by simp [wdB, h]
theorem wd_dig {c : Int} (h2 : digB c = true) : wdB c = true := by simp [wdB, h2]
theorem wd_und {c : Int} (h : letB c = false) (h2 : digB c = false) : wdB c = (c == 95) := by simp [wdB, h, h2]

set_option maxHeartbeats 1000000 in
theorem word_any (s : ByteArray) (w : World) (hs : s.size ≤ maxLen) :
    Calls Tryz.prog 63 #[.string s] w fun e w' => e = .returned (.int .i64 (wl s.data.toList)) ∧ w = w' := by
  unfold maxLen at hs
  go_enter Tryz.func63, Tryz.ntmps63
  go_wp2
  go_loop [3] (fun i => ∃ k : Nat, k ≤ s.size ∧ i = .int .i64 k ∧ Hid (wl s.data.toList = k + wl (s.data.toList.drop k))) (fun i => s.size - (intOf i).toNat)
  case atStart => exact ⟨0, Nat.zero_le _, rfl, hide (by simp)⟩
  case round =>
    obtain ⟨k, hk, rfl, hw⟩ := hrel
    by_cases hlt : k < s.size
    · have hat := hide (wl_at s k hlt hw.out)
      have hbd := byte_bd s[k]
      by_cases h1 : letB (s[k].toNat : Int) = true
      · have h1' := hide (wd_let h1)
        go_wp2_with (first | (go_at_call 62; refine (letter_any _ _).mono ?_; rintro e w' ⟨rfl, rfl⟩))
        go_round
        case rel => exact ⟨k + 1, by omega, by go_num, hide (by have := hat.out; rw [if_pos h1'.out] at this; omega)⟩
        case measure => simp [intOf]; omega
      · have h1 : letB (s[k].toNat : Int) = false := by simpa using h1
        by_cases h2 : digB (s[k].toNat : Int) = true
        · have h1' := hide (wd_dig h2)
          go_wp2_with (first | (go_at_call 62; refine (letter_any _ _).mono ?_; rintro e w' ⟨rfl, rfl⟩) | (go_at_call 85; refine (digit_any _ _).mono ?_; rintro e w' ⟨rfl, rfl⟩))
          go_round
          case rel => exact ⟨k + 1, by omega, by go_num, hide (by have := hat.out; rw [if_pos h1'.out] at this; omega)⟩
          case measure => simp [intOf]; omega
        · have h2 : digB (s[k].toNat : Int) = false := by simpa using h2
          have h3' := hide (wd_und h1 h2)
          by_cases h3 : ((s[k].toNat : Int) == 95) = true
          · have h3'' := hide h3
            go_wp2_with (first | (go_at_call 62; refine (letter_any _ _).mono ?_; rintro e w' ⟨rfl, rfl⟩) | (go_at_call 85; refine (digit_any _ _).mono ?_; rintro e w' ⟨rfl, rfl⟩))
            go_round
            case rel => exact ⟨k + 1, by omega, by go_num, hide (by have := hat.out; rw [if_pos (h3'.out.trans h3''.out)] at this; omega)⟩
            case measure => simp [intOf]; omega
          · have h3 : ((s[k].toNat : Int) == 95) = false := by simpa using h3
            have h3'' := hide h3
            go_wp2_with (first | (go_at_call 62; refine (letter_any _ _).mono ?_; rintro e w' ⟨rfl, rfl⟩) | (go_at_call 85; refine (digit_any _ _).mono ?_; rintro e w' ⟨rfl, rfl⟩))
            go_ret
            refine ⟨ret_int ?_, rfl⟩
            have := hat.out
            rw [if_neg (by rw [h3'.out, h3''.out]; simp)] at this
            omega
    · have he : k = s.size := by omega
      have hq := hide (wl_end s (he ▸ hw.out))
      clear he
      go_wp2
      go_ret
      refine ⟨ret_int ?_, rfl⟩
      have := hq.out
      omega
theorem empty_of {s : ByteArray} (h : s.size = 0) : (!s.toList.isEmpty) = false := by
  rw [ByteArray.toList_eq]
  have : s.data.toList = [] := by apply List.eq_nil_of_length_eq_zero; simpa using h
  rw [this]; rfl
theorem full_of {s : ByteArray} (h : 0 < s.size) : (!s.toList.isEmpty) = true := by
  rw [ByteArray.toList_eq]
  cases e : s.data.toList with
  | nil =>
    have h2 : s.data.toList.length = s.size := Array.length_toList
    rw [e] at h2; simp at h2; omega
  | cons => rfl
set_option maxHeartbeats 1000000 in
theorem isname_any (s : ByteArray) (w : World) (hs : s.size ≤ maxLen) :
    Calls Tryz.prog 41 #[.string s] w fun e w' => e = .returned (.bool (nameB s.data.toList)) ∧ w = w' := by
  have hs' := hs
  unfold maxLen at hs
  by_cases h0 : s.size = 0
  · have hn := hide (nameB_nil s h0)
    have he' := empty_of h0
    go_enter Tryz.func41, Tryz.ntmps41
    go_wp2
    go_ret
    exact ⟨ret_bool hn.out.symm, rfl⟩
  · have hn := hide (nameB_at s (by omega))
    have hp : 0 < s.size := by omega
    have he := full_of hp
    by_cases h1 : s.size ≤ 20 <;> by_cases h2 : letB (s[0].toNat : Int) = true
    all_goals
      go_enter Tryz.func41, Tryz.ntmps41
      go_wp2_with (first | (go_at_call 62; refine (letter_any _ _).mono ?_; rintro e w' ⟨rfl, rfl⟩) | (go_at_call 63; refine (word_any _ _ hs').mono ?_; rintro e w' ⟨rfl, rfl⟩))
      go_ret
      refine ⟨ret_bool ?_, rfl⟩
      rw [hn.out]
      simp [h1, h2]
    rw [Bool.eq_iff_iff]; simp; omega
end Go.Proofs.YtaaadejamjbcbaaGreatDoor

namespace Go.Proofs.YtaaadejamjbcbaaGreatDoor
open Go.RowKit

structure Cls where
  nm : ByteArray
  se : Int
  we : Int
  ro : Int
  dr : Int
abbrev Cls.val (c : Cls) : Value := .agg #[.string c.nm, .int .i64 c.se, .int .i64 c.we, .int .i64 c.ro, .int .i64 c.dr]
def sameS (a b : ByteArray) : Bool := a.toList == b.toList
theorem sameS_self (a : ByteArray) : sameS a a = true := by simp [sameS]

def ClsAt (w : World) (b o : Nat) (c : Cls) : Prop :=
  w.cell? ⟨b, o, none⟩ = some (.string c.nm) ∧ w.cell? ⟨b, o + 1, none⟩ = some (.int .i64 c.se) ∧ w.cell? ⟨b, o + 2, none⟩ = some (.int .i64 c.we) ∧
    w.cell? ⟨b, o + 3, none⟩ = some (.int .i64 c.ro) ∧ w.cell? ⟨b, o + 4, none⟩ = some (.int .i64 c.dr)
theorem ClsAt.below {w w' : World} {b o : Nat} {c : Cls} (h : ClsAt w b o c) (hb : Below w.heap.size w w') : ClsAt w' b o c := by
  have hlt := lt_of_cell h.1
  have k := fun (i : Nat) => hb.cell (p := ⟨b, i, none⟩) hlt
  exact ⟨(k _).trans h.1, (k _).trans h.2.1, (k _).trans h.2.2.1, (k _).trans h.2.2.2.1, (k _).trans h.2.2.2.2⟩
/-- a slice of classes that reads as a list -/
def ClsSl (w : World) (A : Option Addr) (l : List Cls) : Prop :=
  (l.length ≤ maxLen ∧ ∀ i (h : i < l.length), l[i].nm.size ≤ maxLen) ∧ (0 < l.length → ∃ b off, A = some ⟨b, off, none⟩ ∧ b < w.heap.size ∧ ∀ i (h : i < l.length), ClsAt w b (off + i * 5) l[i])
theorem ClsSl.below {w w' : World} {A : Option Addr} {l : List Cls} (h : ClsSl w A l) (hb : Below w.heap.size w w') : ClsSl w' A l :=
  ⟨h.1, fun hl => by obtain ⟨b, off, e, hlt, hat⟩ := h.2 hl; exact ⟨b, off, e, Nat.lt_of_lt_of_le hlt hb.size, fun i hi => (hat i hi).below hb⟩⟩

def findI (l : List Cls) (nm : ByteArray) : Int := match l.findIdx? (fun c => sameS c.nm nm) with | some i => (i : Int) | none => -1
theorem findI_no {l : List Cls} {nm : ByteArray} (h : ∀ i (hi : i < l.length), sameS l[i].nm nm = false) : findI l nm = -1 := by
  have : l.findIdx? (fun c => sameS c.nm nm) = none := by
    rw [List.findIdx?_eq_none_iff]
    intro x hx
    obtain ⟨i, hi, rfl⟩ := List.mem_iff_getElem.1 hx
    exact h i hi
  simp [findI, this]
theorem findI_yes {l : List Cls} {nm : ByteArray} {k : Nat} (hk : k < l.length) (h : ∀ i (hi : i < l.length), i < k → sameS l[i].nm nm = false) (hy : sameS l[k].nm nm = true) : findI l nm = k := by
  have : l.findIdx? (fun c => sameS c.nm nm) = some k := by
    rw [List.findIdx?_eq_some_iff_getElem]
    exact ⟨hk, hy, fun j hj => by rw [h j (by omega) hj]; simp⟩
  simp [findI, this]
theorem findI_bd (l : List Cls) (nm : ByteArray) : -1 ≤ findI l nm ∧ findI l nm ≤ l.length := by
  unfold findI
  split
  · rename_i i h
    rw [List.findIdx?_eq_some_iff_getElem] at h
    obtain ⟨h, _⟩ := h
    omega
  · omega
/-- the numbers and the name of a class are right -/
def inB (n m : Int) : Bool := decide (0 ≤ n ∧ n ≤ m)
theorem inB_iff {n m : Int} : inB n m = true ↔ 0 ≤ n ∧ n ≤ m := by simp [inB]
theorem inB_not {n m : Int} : inB n m = false ↔ n < 0 ∨ m < n := by simp [inB]; omega
def rightB (c : Cls) : Bool := nameB c.nm.data.toList && inB c.se 1000 && inB c.we 100000 && inB c.ro 1000000 && inB c.dr 1000
def okAt (l : List Cls) (i : Nat) : Bool := match l[i]? with | some c => rightB c && decide (findI l c.nm = (i : Int)) | none => true
/-- the six tests of a class, in the order of the text: all hold, or the first that does not -/
theorem tests6 (a b c d e f : Bool) : (a = true ∧ b = true ∧ c = true ∧ d = true ∧ e = true ∧ f = true) ∨ a = false ∨ (a = true ∧ b = false) ∨ (a = true ∧ b = true ∧ c = false) ∨
    (a = true ∧ b = true ∧ c = true ∧ d = false) ∨ (a = true ∧ b = true ∧ c = true ∧ d = true ∧ e = false) ∨ (a = true ∧ b = true ∧ c = true ∧ d = true ∧ e = true ∧ f = false) := by
  cases a <;> cases b <;> cases c <;> cases d <;> cases e <;> cases f <;> simp
theorem okAt_six {l : List Cls} {i : Nat} (h : i < l.length) : okAt l i = (nameB l[i].nm.data.toList && decide (findI l l[i].nm = (i : Int)) && inB l[i].se 1000 && inB l[i].we 100000 && inB l[i].ro 1000000 && inB l[i].dr 1000) := by
  simp only [okAt, List.getElem?_eq_getElem h, rightB]
  generalize nameB l[i].nm.data.toList = a; generalize decide (findI l l[i].nm = (i : Int)) = b; generalize inB l[i].se 1000 = c; generalize inB l[i].we 100000 = d; generalize inB l[i].ro 1000000 = e; generalize inB l[i].dr 1000 = f
  cases a <;> cases b <;> cases c <;> cases d <;> cases e <;> cases f <;> rfl
def validB (l : List Cls) : Bool := decide (1 ≤ l.length) && decide (l.length ≤ 16) && (List.range l.length).all (okAt l)
theorem okAt_get {l : List Cls} {i : Nat} (h : i < l.length) : okAt l i = (rightB l[i] && decide (findI l l[i].nm = (i : Int))) := by
  simp [okAt, List.getElem?_eq_getElem h]
theorem validB_len0 {l : List Cls} (h : ¬ 1 ≤ l.length) : validB l = false := by simp [validB, h]
theorem validB_len1 {l : List Cls} (h : ¬ l.length ≤ 16) : validB l = false := by simp [validB, h]
theorem validB_not {l : List Cls} {i : Nat} (h : i < l.length) (hn : okAt l i = false) : validB l = false := by
  have : (List.range l.length).all (okAt l) = false := by
    rw [List.all_eq_false]
    exact ⟨i, List.mem_range.2 h, by simp [hn]⟩
  simp [validB, this]
theorem validB_yes {l : List Cls} (h1 : 1 ≤ l.length) (h2 : l.length ≤ 16) (h : ∀ i, i < l.length → okAt l i = true) : validB l = true := by
  have : (List.range l.length).all (okAt l) = true := by
    rw [List.all_eq_true]
    intro x hx
    exact h x (List.mem_range.1 hx)
  simp [validB, this, h1, h2]
theorem validB_one (c : Cls) : validB [c] = rightB c := by
  have h0 : findI [c] c.nm = 0 := findI_yes (l := [c]) (k := 0) (by simp) (by intros; omega) (sameS_self _)
  simp [validB, okAt, h0]
theorem of_validB {l : List Cls} (h : validB l = true) : 1 ≤ l.length ∧ l.length ≤ 16 ∧ ∀ i (hi : i < l.length), rightB l[i] = true ∧ findI l l[i].nm = (i : Int) := by
  simp only [validB, Bool.and_eq_true, decide_eq_true_eq, List.all_eq_true, List.mem_range] at h
  refine ⟨h.1.1, h.1.2, fun i hi => ?_⟩
  have := h.2 i hi
  rw [okAt_get hi] at this
  simpa using this
theorem of_rightB {c : Cls} (h : rightB c = true) : nameB c.nm.data.toList = true ∧ 0 ≤ c.se ∧ c.se ≤ 1000 ∧ 0 ≤ c.we ∧ c.we ≤ 100000 ∧ 0 ≤ c.ro ∧ c.ro ≤ 1000000 ∧ 0 ≤ c.dr ∧ c.dr ≤ 1000 := by
  simp only [rightB, Bool.and_eq_true, inB_iff] at h
  obtain ⟨⟨⟨⟨h1, h2⟩, h3⟩, h4⟩, h5⟩ := h
  exact ⟨h1, h2.1, h2.2, h3.1, h3.2, h4.1, h4.2, h5.1, h5.2⟩
end Go.Proofs.YtaaadejamjbcbaaGreatDoor

namespace Go.Proofs.YtaaadejamjbcbaaGreatDoor
open Go.RowKit

set_option maxHeartbeats 400000 in
theorem luwithin_any (n m : Int) (w : World) :
    Calls Tryz.prog 23 #[.int .i64 n, .int .i64 m] w fun e w' => e = .returned (.bool (inB n m)) ∧ w = w' := by
  by_cases h1 : 0 ≤ n <;> by_cases h2 : n ≤ m
  all_goals
    go_enter Tryz.func23, Tryz.ntmps23
    go_wp2
    go_ret
    refine ⟨ret_bool ?_, rfl⟩
    simp [inB, h1, h2]

set_option maxHeartbeats 400000 in
theorem clo_any (c : Cls) (b : Nat) (nm : ByteArray) (w : World) (hb : b < w.heap.size) (h0 : w.cell? ⟨b, 0, none⟩ = some (.string nm)) :
    Calls Tryz.prog 65 #[c.val, .pointer (some ⟨b, 0, none⟩)] w fun e w' => e = .returned (.bool (sameS c.nm nm)) ∧ Below w.heap.size w w' := by
  go_enter Tryz.func65, Tryz.ntmps65
  go_wp2
  go_ret
  exact ⟨ret_bool rfl, by go_grown⟩

set_option maxHeartbeats 1000000 in
theorem idxf_any (l : List Cls) (A : Option Addr) (cap bs : Nat) (nm : ByteArray) (w : World) (hl : ClsSl w A l) (h0 : w.cell? ⟨bs, 0, none⟩ = some (.string nm)) :
    Calls Tryz.prog 64 #[.slice A l.length cap, .func (.func 65) #[] #[.pointer (some ⟨bs, 0, none⟩)]] w
      fun e w' => e = .returned (.int .i64 (findI l nm)) ∧ Below w.heap.size w w' := by
  have hlen : l.length ≤ 9223372036854775807 := hl.1.1
  have hbs : bs < w.heap.size := lt_of_cell h0
  have H := hide hl
  clear hl
  have H0 := hide h0
  clear h0
  go_enter Tryz.func64, Tryz.ntmps64
  go_wp2
  go_loopw [8] (fun v8 wr => ∃ k : Nat, k ≤ l.length ∧ v8 = .int .i64 k ∧ Below w.heap.size w wr ∧ Hid (∀ i (hi : i < l.length), i < k → sameS l[i].nm nm = false)) (fun v8 _ => l.length - (intOf v8).toNat)
  case atStart => exact ⟨0, Nat.zero_le _, rfl, Below.refl _ _, hide (fun _ _ h => by omega)⟩
  case round =>
    obtain ⟨k, hk, rfl, hb, hno⟩ := hrel
    have hsz := hb.size
    by_cases hlt : k < l.length
    · obtain ⟨b, off, rfl, hbl, hat⟩ := (H.out.below hb).2 (by omega)
      obtain ⟨c0, c1, c2, c3, c4⟩ := hat k hlt
      clear hat
      have hc := (hb.cell (p := ⟨bs, 0, none⟩) hbs).trans H0.out
      have Hb := hide hb
      clear hb
      by_cases hs : sameS l[k].nm nm = true
      · go_wp2_with (go_at_call 65; refine (clo_any l[k] bs nm _ (by omega) hc).mono ?_; rintro e w' ⟨rfl, hb1⟩)
        go_ret
        exact ⟨ret_int (findI_yes hlt (fun i hi hik => hno.out i hi hik) hs).symm, Hb.out.trans (hb1.mono hsz)⟩
      · have hs : sameS l[k].nm nm = false := by simpa using hs
        go_wp2_with (go_at_call 65; refine (clo_any l[k] bs nm _ (by omega) hc).mono ?_; rintro e w' ⟨rfl, hb1⟩)
        go_roundw
        case rel =>
          refine ⟨k + 1, by omega, by go_num, Hb.out.trans (hb1.mono hsz), hide fun i hi hik => ?_⟩
          by_cases e : i = k
          · subst e; exact hs
          · exact hno.out i hi (by omega)
        case measure => simp [intOf]; omega
    · have Hb := hide hb
      clear hb
      go_wp2
      go_ret
      exact ⟨ret_int (findI_no fun i hi => hno.out i hi (by omega)).symm, Hb.out⟩

set_option maxHeartbeats 1000000 in
theorem index_any (l : List Cls) (A : Option Addr) (cap : Nat) (nm : ByteArray) (w : World) (hl : ClsSl w A l) :
    Calls Tryz.prog 42 #[.slice A l.length cap, .string nm] w fun e w' => e = .returned (.int .i64 (findI l nm)) ∧ Below w.heap.size w w' := by
  have H := hide (hl.below ((Below.refl w.heap.size w).alloc (Nat.le_refl _) (.cells #[.string nm] 9)))
  clear hl
  go_enter Tryz.func42, Tryz.ntmps42
  go_wp2_with (go_at_call 64; refine (idxf_any l A cap w.heap.size nm _ H.out (by go_cell)).mono ?_; rintro e w' ⟨rfl, hb1⟩)
  go_ret
  exact ⟨rfl, ((Below.refl _ _).alloc (Nat.le_refl _) _).trans (hb1.mono (by simp))⟩

set_option maxHeartbeats 2000000 in
theorem luvalid_any (l : List Cls) (A : Option Addr) (cap : Nat) (w : World) (hl : ClsSl w A l) :
    Calls Tryz.prog 21 #[.slice A l.length cap] w fun e w' => e = .returned (.bool (validB l)) ∧ Below w.heap.size w w' := by
  have hlen : l.length ≤ 9223372036854775807 := hl.1.1
  have H := hide hl
  clear hl
  by_cases h1 : 1 ≤ l.length
  case neg =>
    have hv := hide (validB_len0 h1)
    go_enter Tryz.func21, Tryz.ntmps21
    go_wp2
    go_ret
    exact ⟨ret_bool hv.out.symm, Below.refl _ _⟩
  by_cases h2 : l.length ≤ 16
  case neg =>
    have hv := hide (validB_len1 h2)
    go_enter Tryz.func21, Tryz.ntmps21
    go_wp2
    go_ret
    exact ⟨ret_bool hv.out.symm, Below.refl _ _⟩
  go_enter Tryz.func21, Tryz.ntmps21
  go_wp2
  go_loopw [15] (fun v wr => ∃ k : Nat, k ≤ l.length ∧ v = .int .i64 k ∧ Below w.heap.size w wr ∧ Hid (∀ i, i < k → okAt l i = true)) (fun v _ => l.length - (intOf v).toNat)
  case atStart => exact ⟨0, Nat.zero_le _, rfl, Below.refl _ _, hide (fun _ h => by omega)⟩
  case round =>
    obtain ⟨k, hk, rfl, hb, hno⟩ := hrel
    have hsz := hb.size
    by_cases hlt : k < l.length
    · have hsl := H.out.below hb
      obtain ⟨b, off, rfl, hbl, hat⟩ := hsl.2 (by omega)
      have hnm : l[k].nm.size ≤ maxLen := H.out.1.2 k hlt
      obtain ⟨c0, c1, c2, c3, c4⟩ := hat k hlt
      clear hat
      have Hb := hide hb
      have Hsl := hide (hsl.below ((Below.refl wr.heap.size wr).alloc (Nat.le_refl _) (.cells #[.string l[k].nm, .int .i64 l[k].se, .int .i64 l[k].we, .int .i64 l[k].ro, .int .i64 l[k].dr] 57)))
      clear hb hsl
      have hsix := hide (okAt_six hlt)
      have ht := tests6 (nameB l[k].nm.data.toList) (decide (findI l l[k].nm = (k : Int))) (inB l[k].se 1000) (inB l[k].we 100000) (inB l[k].ro 1000000) (inB l[k].dr 1000)
      simp only [decide_eq_true_eq, decide_eq_false_iff_not] at ht
      rcases ht with ⟨t1, t2, t3, t4, t5, t6⟩ | t1 | ⟨t1, t2⟩ | ⟨t1, t2, t3⟩ | ⟨t1, t2, t3, t4⟩ | ⟨t1, t2, t3, t4, t5⟩ | ⟨t1, t2, t3, t4, t5, t6⟩
      all_goals
        go_wp2_with (first | (go_at_call 41; refine (isname_any _ _ hnm).mono ?_; rintro e w' ⟨rfl, rfl⟩) | (go_at_call 23; refine (luwithin_any _ _ _).mono ?_; rintro e w' ⟨rfl, rfl⟩) | (go_at_call 42; refine (index_any l _ cap _ _ Hsl.out).mono ?_; rintro e w' ⟨rfl, hb1⟩; have hc1 := (bcell hb1).1; have hf1 := (bcell hb1).2))
      · go_roundw
        case rel =>
          refine ⟨k + 1, by omega, by go_num, below_via (Hb.out.alloc hsz _) (by simp; omega) hb1, hide fun i hi => ?_⟩
          by_cases e : i = k
          · subst e; rw [hsix.out]; simp [t1, t2, t3, t4, t5, t6]
          · exact hno.out i (by omega)
        case measure => simp [intOf]; omega
      all_goals
        have hv : validB l = false := validB_not hlt (by rw [hsix.out]; simp [*])
        go_ret
        exact ⟨ret_bool hv.symm, by first | exact below_via (Hb.out.alloc hsz _) (by simp; omega) hb1 | exact Hb.out.alloc hsz _⟩
    · have hv := hide (validB_yes h1 h2 (fun i hi => hno.out i (by omega)))
      have Hb := hide hb
      clear hb
      go_wp2
      go_ret
      exact ⟨ret_bool hv.out.symm, Hb.out⟩
end Go.Proofs.YtaaadejamjbcbaaGreatDoor

namespace Go.Proofs.YtaaadejamjbcbaaGreatDoor
open Go Go.RowKit

/-- a face of a class gets another one -/
def chf (frm tk : Int) (f : Fce) : Fce := if f.k = frm then { f with k := tk } else f
def chN (frm : Int) (l : List Fce) : Nat := l.countP fun f => decide (f.k = frm)
theorem flatFce_set : ∀ (l : List Fce) (i : Nat) (h : i < l.length) (u : Int), (flatFce l).set (i * 4 + 3) (.int .i64 u) = flatFce (l.set i { l[i] with k := u })
  | [], _, h, _ => absurd h (by simp)
  | c :: l, 0, _, _ => rfl
  | c :: l, i + 1, h, u => by
    have ih := flatFce_set l i (by simpa using h) u
    have hi : i < l.length := by simpa using h
    show (c.cs ++ flatFce l).set _ _ = c.cs ++ flatFce (l.set i { l[i] with k := u })
    rw [List.set_append_right _ _ (by simp; omega), ← ih]
    congr 2
    simp; omega
/-- the first faces changed -/
def chL (frm tk : Int) (fs : List Fce) (i : Nat) : List Fce := (fs.take i).map (chf frm tk) ++ fs.drop i
theorem chL_len (frm tk : Int) (fs : List Fce) (i : Nat) : (chL frm tk fs i).length = fs.length := by simp [chL]; omega
theorem chL_at {frm tk : Int} {fs : List Fce} {i : Nat} (h : i < fs.length) : (chL frm tk fs i)[i]'(by rw [chL_len]; exact h) = fs[i] := by
  simp only [chL]
  rw [List.getElem_append_right (by simp; omega)]
  simp [Nat.min_eq_left (Nat.le_of_lt h)]
theorem chL_yes {frm tk : Int} {fs : List Fce} {i : Nat} (h : i < fs.length) (hk : fs[i].k = frm) : (chL frm tk fs i).set i { fs[i] with k := tk } = chL frm tk fs (i + 1) := by
  unfold chL
  rw [List.set_append_right _ _ (by simp; omega), List.take_succ_eq_append_getElem h, List.map_append, List.append_assoc]
  congr 1
  rw [show i - (List.map (chf frm tk) (List.take i fs)).length = 0 by simp; omega, List.drop_eq_getElem_cons h]
  show _ :: _ = chf frm tk fs[i] :: _
  rw [show chf frm tk fs[i] = { fs[i] with k := tk } from by simp [chf, hk]]
  rfl
theorem chL_no {frm tk : Int} {fs : List Fce} {i : Nat} (h : i < fs.length) (hk : fs[i].k ≠ frm) : chL frm tk fs i = chL frm tk fs (i + 1) := by
  unfold chL
  rw [List.take_succ_eq_append_getElem h, List.map_append, List.append_assoc, List.drop_eq_getElem_cons h]
  simp [chf, hk]
theorem chN_s {frm : Int} {fs : List Fce} {i : Nat} (h : i < fs.length) : chN frm (fs.take (i + 1)) = chN frm (fs.take i) + if fs[i].k = frm then 1 else 0 := by
  unfold chN
  rw [List.take_succ_eq_append_getElem h, List.countP_append]
  simp [List.countP_cons]
theorem chL_end {frm tk : Int} {fs : List Fce} : chL frm tk fs fs.length = fs.map (chf frm tk) := by simp [chL]
/-- two rows of the call's own beside blocks of its own -/
structure Cg (w W : World) (C : List (Nat × TypeId × Array Value)) (v1 : Value) (ss : List Spt) (v2 : Value) (l : List Fce) : Prop where
  own : Own w W C
  r1 : W.ownsRow w.heap.size 62 3 v1 ss.length (flatSpt ss)
  r2 : W.ownsRow w.heap.size 65 4 v2 l.length (flatFce l)
theorem Cg.set {w W : World} {C : List (Nat × TypeId × Array Value)} {v1 : Value} {ss : List Spt} {l : List Fce} {g n c : Nat} (h : Cg w W C v1 ss (.slice (some ⟨g, 0, none⟩) n c) l) (hn : l.length = n) (hty : ∀ x ∈ C, 65 ≠ x.2.1) (i : Nat) (hi : i < l.length) (u : Int) :
    Cg w (W.setCell ⟨g, i * 4 + 3, none⟩ (.int .i64 u)) C v1 ss (.slice (some ⟨g, 0, none⟩) n c) (l.set i { l[i] with k := u }) := by
  subst hn
  obtain ⟨s1, s2⟩ := h.r2.stored (i * 4 + 3) (.int .i64 u)
  rw [flatFce_set l i hi u] at s1
  exact ⟨h.own.grown h.r2 s2 hty, h.r1.kept s2 (by
    rcases h.r1.2 with ⟨e, _⟩ | ⟨g', cap, cur, e, _, hg, _⟩
    · exact .inl (by rw [e]; rfl)
    · refine .inr fun e2 => ?_
      rw [e] at e2
      have e3 : g' = g := by simpa [Value.ownBlock] using e2
      rcases h.r2.2 with ⟨e4, _⟩ | ⟨g2, cap2, cur2, e4, _, hg2, _⟩
      · cases e4
      · simp only [Value.slice.injEq, Option.some.injEq, Addr.mk.injEq, and_true, true_and] at e4
        rw [e3, e4.1, hg2] at hg
        simp at hg), by rw [List.length_set]; exact s1⟩
theorem Cg.mk2 {w W : World} {b : Nat} {n1 n2 u1 u2 v1 v2 : Value} {L : List (Nat × TypeId × Array Value)} {ss : List Spt} {fs : List Fce} (h : Own w W ((b, 25, #[n1, n2]) :: L)) (hb : w.heap.size ≤ b) (hn : ∀ x ∈ L, x.1 ≠ b)
    (r1 : W.ownsRow w.heap.size 62 3 v1 ss.length (flatSpt ss)) (r2 : W.ownsRow w.heap.size 65 4 v2 fs.length (flatFce fs)) :
    Cg w ((W.setCell ⟨b, 0, none⟩ u1).setCell ⟨b, 1, none⟩ u2) ((b, 25, #[u1, u2]) :: L) v1 ss v2 fs := by
  have B0 : Blk W b 25 #[n1, n2] := h.2 (b, _, _) (by simp)
  have B1 := B0.set_ 0 u1
  exact ⟨(h.set0 hb hn 0 u1).set0 hb hn 1 u2, row_set (row_set r1 B0 (by decide) 0 u1) B1 (by decide) 1 u2, row_set (row_set r2 B0 (by decide) 0 u1) B1 (by decide) 1 u2⟩
theorem chN_le (frm : Int) (l : List Fce) : chN frm l ≤ l.length := List.countP_le_length
theorem add_zero_off (g j : Nat) : (⟨g, 0, none⟩ : Addr).add j = ⟨g, j, none⟩ := by unfold Addr.add; split <;> simp_all
/-- three rules of a start -/
theorem row_baseM {w : World} {B B' : Nat} {e : TypeId} {size n : Nat} {v : Value} {xs : List Value} (h : w.ownsRow B e size v n xs) (hB : B' ≤ B) : w.ownsRow B' e size v n xs :=
  ⟨h.1, h.2.imp id fun ⟨g, cap, cur, h1, h2, h3⟩ => ⟨g, cap, cur, h1, Nat.le_trans hB h2, h3⟩⟩
def ChgPost (ss : List Spt) (fs : List Fce) (frm tk : Int) (w : World) (e : Ending) (w' : World) : Prop :=
  Below w.heap.size w w' ∧ ∃ B1 d1 B2 d2, e = .returned (.tuple #[.agg #[.slice B1 ss.length d1, .slice B2 fs.length d2], .int .i64 (chN frm fs : Nat), .int .i64 0]) ∧ MshSl w' ⟨ss, fs.map (chf frm tk)⟩ ⟨B1, d1, B2, d2⟩ ∧ ss.length ≤ d1 ∧ fs.length ≤ d2
set_option maxRecDepth 100000 in
set_option maxHeartbeats 8000000 in
theorem chg_ok (ss : List Spt) (fs : List Fce) (A1 A2 : Option Addr) (c1 c2 : Nat) (frm tk : Int) (w : World) (hm : MshSl w ⟨ss, fs⟩ ⟨A1, c1, A2, c2⟩) (ht : Lib.TabIs Tryz.prog w "internal/strconv.uint64pow10" .u64 Lib.pow10Tab) (hv : vM ⟨ss, fs⟩ = true) (hf : 0 ≤ frm ∧ frm ≤ 15) (hk : 0 ≤ tk ∧ tk ≤ 15) :
    Calls Tryz.prog 8 #[.agg #[.slice A1 ss.length c1, .slice A2 fs.length c2], .int .i64 frm, .int .i64 tk] w (ChgPost ss fs frm tk w) := by
  have X := ((Own.start w).alloc #[.slice A1 ss.length c1, .slice A2 fs.length c2] 25).alloc #[.slice none 0 0, .slice none 0 0] 25
  simp only [World.size_alloc] at X
  have hs : ss.length ≤ 2000 ∧ fs.length ≤ 4000 := by
    have : smB ⟨ss, fs⟩ = true := by
      cases h : smB ⟨ss, fs⟩ with
      | true => rfl
      | false => rw [big_vM h] at hv; cases hv
    simpa [smB] using this
  have HMP := hide hm
  have VA := hide (msvalid_any ⟨ss, fs⟩ ⟨A1, c1, A2, c2⟩ _ (hm.below X.1) (tab_below ht X.1))
  rw [hv] at VA
  unfold RetW at VA
  have W1 := hide (fun W => luwithin_any frm 15 W)
  have W2 := hide (fun W => luwithin_any tk 15 W)
  rw [show inB frm 15 = true by simp [inB, hf.1, hf.2]] at W1
  rw [show inB tk 15 = true by simp [inB, hk.1, hk.2]] at W2
  have HK := hide (And.intro hk hs)
  have C1 := hide (fun W (h : SptSl W A1 ss) => cloneSpt_any ss A1 c1 W h (by omega))
  have C2 := hide (fun W (h : FceSl W A2 fs) => cloneFce_any fs A2 c2 W h hs.2)
  have hr := X.r2
  have HX := hide X
  clear hm ht hv X hf hk hs
  go_enter Tryz.func8, Tryz.ntmps8
  go_wp2_with fail
  refine VA.out.mono ?_
  rintro e w1 ⟨rfl, hb⟩
  replace HX := hide (HX.out.to hb)
  clear hb hr VA
  have hr := HX.out.r2
  go_wp2_with fail
  refine (W1.out _).mono ?_
  rintro e w1' ⟨rfl, rfl⟩
  go_wp2_with fail
  refine (W2.out _).mono ?_
  rintro e w1' ⟨rfl, rfl⟩
  go_upto_region 5 with (fail)
  go_cut [9] (fun v9 wx => ∃ (b9 : Nat) (B1 : Option Addr) (d1 : Nat) (B2 : Option Addr) (d2 : Nat), v9 = .pointer (some ⟨b9, 0, none⟩) ∧ ss.length ≤ d1 ∧ fs.length ≤ d2 ∧ w.heap.size + 1 < b9 ∧ Hid (Cg w wx [(b9, 25, #[.slice B1 ss.length d1, .slice B2 fs.length d2]), (w.heap.size + 1, 25, #[.slice none 0 0, .slice none 0 0]), (w.heap.size, 25, #[.slice A1 ss.length c1, .slice A2 fs.length c2])] (.slice B1 ss.length d1) ss (.slice B2 fs.length d2) fs))
  case first =>
    have hz1 := HX.out.r2.1.2.2
    have nz1 : ¬ w1.heap.size = w.heap.size := by omega
    have nz1' : ¬ w.heap.size = w1.heap.size := by omega
    go_region_held3 (fun w' => w'.cell? ⟨w.heap.size, 0, none⟩ = some (.slice A1 ss.length c1) ∧ w'.cell? ⟨w.heap.size, 1, none⟩ = some (.slice A2 fs.length c2)) (go_keep) (first
      | (go_at_call 24; (first | (refine (C1.out _ (HMP.out.1.below HX.out.drew.1)).mono ?_; rintro e w2 ⟨B1, d1, rfl, hD, hc1, hb⟩; have HD := hide (row_baseM hD HX.out.drew.1.size); replace HX := hide (HX.out.drew.to hb)) | (refine (C1.out _ (HMP.out.1.below (HX.out.alloc #[.slice none 0 0, .slice none 0 0] 25).drew.1)).mono ?_; rintro e w2 ⟨B1, d1, rfl, hD, hc1, hb⟩; have HD := hide (row_baseM hD (HX.out.alloc #[.slice none 0 0, .slice none 0 0] 25).drew.1.size); replace HX := hide ((HX.out.alloc #[.slice none 0 0, .slice none 0 0] 25).drew.to hb))); (first | (have hr := HX.out.r3; have q2 : w.heap.size + 1 < w2.heap.size := hr.2.1.2.2) | (have hr := HX.out.r2; have q2 : w.heap.size + 1 < w2.heap.size := hr.1.2.2)); have nz2 : ¬ w2.heap.size = w.heap.size := (by omega); have nz2' : ¬ w.heap.size = w2.heap.size := (by omega); clear hb hD)
      | (go_at_call 25; (first | (refine (C2.out _ (HMP.out.2.below HX.out.1)).mono ?_; rintro e w3 ⟨B2, d2, rfl, hD, hc2, hb⟩; have HP := hide (row_baseM hD HX.out.1.size); replace HX := hide (HX.out.to hb)) | (refine (C2.out _ (HMP.out.2.below (HX.out.alloc #[.slice none 0 0, .slice none 0 0] 25).1)).mono ?_; rintro e w3 ⟨B2, d2, rfl, hD, hc2, hb⟩; have HP := hide (row_baseM hD (HX.out.alloc #[.slice none 0 0, .slice none 0 0] 25).1.size); replace HX := hide ((HX.out.alloc #[.slice none 0 0, .slice none 0 0] 25).to hb))); (first | (replace HD := hide (row_below HD.out hb)) | (replace HD := hide (row_below (HD.out.alloc (.cells #[.slice none 0 0, .slice none 0 0] 25)) hb))); (first | (have hr := HX.out.r3; have q3 : w.heap.size + 1 < w3.heap.size := hr.2.1.2.2) | (have hr := HX.out.r2; have q3 : w.heap.size + 1 < w3.heap.size := hr.1.2.2)); have nz3 : ¬ w3.heap.size = w.heap.size := (by omega); have nz3' : ¬ w.heap.size = w3.heap.size := (by omega); clear hb hD))
    all_goals go_wp2_with fail
    all_goals go_meet
    · exact ⟨_, _, _, _, _, rfl, hc1, hc2, by omega, hide ⟨HX.out.alloc _ _, HD.out.alloc _, HP.out.alloc _⟩⟩
    · exact ⟨_, _, _, _, _, rfl, hc1, hc2, by omega, hide (Cg.mk2 HX.out (by omega) (by simp; omega) HD.out HP.out)⟩
    · exact ⟨_, _, _, _, _, rfl, hc1, hc2, by omega, hide (Cg.mk2 HX.out (by omega) (by simp; omega) HD.out HP.out)⟩
  case rest =>
    obtain ⟨b9, B1, d1, B2, d2, rfl, hc1, hc2, hb9, HC⟩ := hcut
    clear hr
    have hr := HC.out.own.r3
    have e0 : chL frm tk fs 0 = fs := by simp [chL]
    have HC0 : Hid (Cg w wc [(b9, 25, #[.slice B1 ss.length d1, .slice B2 fs.length d2]), (w.heap.size + 1, 25, #[.slice none 0 0, .slice none 0 0]), (w.heap.size, 25, #[.slice A1 ss.length c1, .slice A2 fs.length c2])] (.slice B1 ss.length d1) ss (.slice B2 fs.length d2) (chL frm tk fs 0)) := hide (by rw [e0]; exact HC.out)
    have fl : fs.length ≤ 4000 := HK.out.2.2
    clear e0 HC C1 C2 HX
    go_wp2
    clear hr
    go_loopw [10, 36] (fun v10 v36 wr => ∃ i : Nat, i ≤ fs.length ∧ v36 = .int .i64 i ∧ v10 = .int .i64 (chN frm (fs.take i) : Nat) ∧ Hid (Cg w wr [(b9, 25, #[.slice B1 ss.length d1, .slice B2 fs.length d2]), (w.heap.size + 1, 25, #[.slice none 0 0, .slice none 0 0]), (w.heap.size, 25, #[.slice A1 ss.length c1, .slice A2 fs.length c2])] (.slice B1 ss.length d1) ss (.slice B2 fs.length d2) (chL frm tk fs i))) (fun _ v36 _ => fs.length - (intOf v36).toNat)
    case atStart => exact ⟨0, Nat.zero_le _, rfl, rfl, HC0⟩
    case round =>
      obtain ⟨i, hi, rfl, rfl, HC⟩ := hrel
      clear HC0
      by_cases hlt : i < fs.length
      · rcases HC.out.r2.2 with ⟨e, _⟩ | ⟨g, cap, cur, e, hg, hcell, _⟩
        · exfalso
          injection e with _ e _
          omega
        injection e with e1 e2 e3
        subst e1
        have KC := HC.out.r2.cells (g := g) rfl (i * 4 + 3) (.int .i64 fs[i].k) (by rw [(flatFce_at _ i (by rw [chL_len]; exact hlt)).2.2.2, chL_at hlt])
        rw [add_zero_off] at KC
        have BK : Blk wr g 65 cur := hcell
        have FR := BK.frozen (i * 4 + 3)
        have gl := BK.lt
        have CS := hide (fun u => HC.out.set (chL_len _ _ _ _) (by simp) i (by rw [chL_len]; exact hlt) u)
        have CN := hide (chN_s (frm := frm) hlt)
        have cn := chN_le frm (fs.take i)
        have ct : (fs.take i).length ≤ i := List.length_take_le _ _
        have YES := hide (fun (h : fs[i].k = frm) => chL_yes (tk := tk) hlt h)
        have NO := hide (fun (h : fs[i].k ≠ frm) => chL_no (tk := tk) hlt h)
        have CA := hide (chL_at (frm := frm) (tk := tk) hlt)
        have i0 : (0 : Int) ≤ (i : Int) := by omega
        have i1 : (i : Int) < (fs.length : Int) := by omega
        have d11 : decide (i < fs.length) = true := decide_eq_true hlt
        have hr := HC.out.own.r1
        clear e2 e3 BK hcell hg
        by_cases hk : fs[i].k = frm
        · have q : (fs[i].k == frm) = true := by simpa using hk
          have E1 := hide (YES.out hk)
          have E2 : Hid (chN frm (fs.take (i + 1)) = chN frm (fs.take i) + 1) := hide (by rw [CN.out, if_pos hk])
          have HK2 := hide hk
          clear YES NO CN hk
          generalize chN frm (fs.take i) = n at *
          generalize hfk : fs[i].k = fk at *
          clear hfk
          go_wp2
          go_roundw
          case rel =>
            refine ⟨i + 1, by omega, by go_num, by rw [E2.out]; go_num, ?_⟩
            rw [← E1.out]
            have := CS.out tk
            rw [CA.out] at this
            exact hide this
          case measure => simp [intOf]; omega
        · have q : (fs[i].k == frm) = false := by simpa using hk
          have E1 := hide (NO.out hk)
          have E2 : Hid (chN frm (fs.take (i + 1)) = chN frm (fs.take i)) := hide (by rw [CN.out, if_neg hk]; rfl)
          clear YES NO CN hk CA CS
          generalize chN frm (fs.take i) = n at *
          generalize hfk : fs[i].k = fk at *
          clear hfk
          go_wp2
          go_roundw
          case rel => exact ⟨i + 1, by omega, by go_num, by rw [E2.out], by rw [← E1.out]; exact HC⟩
          case measure => simp [intOf]; omega
      · obtain rfl : i = fs.length := by omega
        have hr := HC.out.own.r3
        have n1 : ¬ b9 = w.heap.size + 1 := by omega
        have n2 : ¬ w.heap.size + 1 = b9 := by omega
        have E2 : Hid (chN frm (fs.take fs.length) = chN frm fs) := hide (by rw [List.take_length])
        have FIN : Hid (∀ u1 u2, MshSl ((wr.setCell ⟨w.heap.size + 1, 0, none⟩ u1).setCell ⟨w.heap.size + 1, 1, none⟩ u2) ⟨ss, fs.map (chf frm tk)⟩ ⟨B1, d1, B2, d2⟩ ∧ Below w.heap.size w ((wr.setCell ⟨w.heap.size + 1, 0, none⟩ u1).setCell ⟨w.heap.size + 1, 1, none⟩ u2)) := hide (fun u1 u2 => by
          have O := HC.out.own.swap
          have B0 : Blk wr (w.heap.size + 1) 25 #[.slice none 0 0, .slice none 0 0] := O.2 (w.heap.size + 1, _, _) (by simp)
          have B1' := B0.set_ 0 u1
          have r1 := row_set (row_set HC.out.r1 B0 (by decide) 0 u1) B1' (by decide) 1 u2
          have r2 := row_set (row_set HC.out.r2 B0 (by decide) 0 u1) B1' (by decide) 1 u2
          rw [chL_end] at r2
          obtain ⟨A, c, e, hs, _⟩ := SptSl.of_row r1 HMP.out.1.1.1 HMP.out.1.1.2
          injection e with q1 q2 q3
          subst q1
          obtain ⟨A', c', e', hs', _⟩ := FceSl.of_row r2 (by rw [List.length_map]; exact HMP.out.2.1.1) (fun j hj => by
            rw [List.getElem_map]
            have := HMP.out.2.1.2 j (by simpa using hj)
            unfold chf
            split
            · exact ⟨this.1, this.2.1, this.2.2.1, by have := HK.out.1; show i64 tk; unfold i64; omega⟩
            · exact this)
          injection e' with q1 q2 q3
          subst q1
          exact ⟨⟨hs, hs'⟩, below_set (below_set HC.out.own.1 (by omega) u1) (by omega) u2⟩)
        go_wp2
        refine bodyPost_ret (v := .tuple #[.agg #[.slice B1 ss.length d1, .slice B2 fs.length d2], .int .i64 (chN frm (fs.take fs.length) : Nat), .int .i64 0]) (by simp [results, Tryz.results8, hr, go_sem]) rfl ⟨(FIN.out _ _).2, B1, d1, B2, d2, ?_, (FIN.out _ _).1, hc1, hc2⟩
        rw [E2.out]
end Go.Proofs.YtaaadejamjbcbaaGreatDoor
