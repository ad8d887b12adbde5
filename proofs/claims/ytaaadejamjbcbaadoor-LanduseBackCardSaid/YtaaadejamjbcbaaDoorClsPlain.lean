/- Classes of land use in memory, and when a list of them is valid, said of lists. -/
import Derived.Test.YtaaadejamjbcbaaDoorNamePlain
namespace Go.Proofs.YtaaadejamjbcbaaDoor
open Go.RowKit

structure Cls where
  nm : ByteArray
  se : Int
  we : Int
  ro : Int
  dr : Int
abbrev Cls.val (c : Cls) : Value := .agg #[.string c.nm, .int .i64 c.se, .int .i64 c.we, .int .i64 c.ro, .int .i64 c.dr]
def sameS (a b : ByteArray) : Bool := a.toList == b.toList
theorem sameS_self (a : ByteArray) : sameS a a = true := by simp [sameS]

def ClsAt (w : World) (b o : Nat) (c : Cls) : Prop :=
  w.cell? ⟨b, o, none⟩ = some (.string c.nm) ∧ w.cell? ⟨b, o + 1, none⟩ = some (.int .i64 c.se) ∧ w.cell? ⟨b, o + 2, none⟩ = some (.int .i64 c.we) ∧
    w.cell? ⟨b, o + 3, none⟩ = some (.int .i64 c.ro) ∧ w.cell? ⟨b, o + 4, none⟩ = some (.int .i64 c.dr)
theorem ClsAt.below {w w' : World} {b o : Nat} {c : Cls} (h : ClsAt w b o c) (hb : Below w.heap.size w w') : ClsAt w' b o c := by
  have hlt := lt_of_cell h.1
  have k := fun (i : Nat) => hb.cell (p := ⟨b, i, none⟩) hlt
  exact ⟨(k _).trans h.1, (k _).trans h.2.1, (k _).trans h.2.2.1, (k _).trans h.2.2.2.1, (k _).trans h.2.2.2.2⟩
/-- a slice of classes that reads as a list -/
def ClsSl (w : World) (A : Option Addr) (l : List Cls) : Prop :=
  (l.length ≤ maxLen ∧ ∀ i (h : i < l.length), l[i].nm.size ≤ maxLen) ∧ (0 < l.length → ∃ b off, A = some ⟨b, off, none⟩ ∧ b < w.heap.size ∧ ∀ i (h : i < l.length), ClsAt w b (off + i * 5) l[i])
theorem ClsSl.below {w w' : World} {A : Option Addr} {l : List Cls} (h : ClsSl w A l) (hb : Below w.heap.size w w') : ClsSl w' A l :=
  ⟨h.1, fun hl => by obtain ⟨b, off, e, hlt, hat⟩ := h.2 hl; exact ⟨b, off, e, Nat.lt_of_lt_of_le hlt hb.size, fun i hi => (hat i hi).below hb⟩⟩

def findI (l : List Cls) (nm : ByteArray) : Int := match l.findIdx? (fun c => sameS c.nm nm) with | some i => (i : Int) | none => -1
theorem findI_no {l : List Cls} {nm : ByteArray} (h : ∀ i (hi : i < l.length), sameS l[i].nm nm = false) : findI l nm = -1 := by
  have : l.findIdx? (fun c => sameS c.nm nm) = none := by
    rw [List.findIdx?_eq_none_iff]
    intro x hx
    obtain ⟨i, hi, rfl⟩ := List.mem_iff_getElem.1 hx
    exact h i hi
  simp [findI, this]
theorem findI_yes {l : List Cls} {nm : ByteArray} {k : Nat} (hk : k < l.length) (h : ∀ i (hi : i < l.length), i < k → sameS l[i].nm nm = false) (hy : sameS l[k].nm nm = true) : findI l nm = k := by
  have : l.findIdx? (fun c => sameS c.nm nm) = some k := by
    rw [List.findIdx?_eq_some_iff_getElem]
    exact ⟨hk, hy, fun j hj => by rw [h j (by omega) hj]; simp⟩
  simp [findI, this]
theorem findI_bd (l : List Cls) (nm : ByteArray) : -1 ≤ findI l nm ∧ findI l nm ≤ l.length := by
  unfold findI
  split
  · rename_i i h
    rw [List.findIdx?_eq_some_iff_getElem] at h
    obtain ⟨h, _⟩ := h
    omega
  · omega
/-- the numbers and the name of a class are right -/
def inB (n m : Int) : Bool := decide (0 ≤ n ∧ n ≤ m)
theorem inB_iff {n m : Int} : inB n m = true ↔ 0 ≤ n ∧ n ≤ m := by simp [inB]
theorem inB_not {n m : Int} : inB n m = false ↔ n < 0 ∨ m < n := by simp [inB]; omega
def rightB (c : Cls) : Bool := nameB c.nm.data.toList && inB c.se 1000 && inB c.we 100000 && inB c.ro 1000000 && inB c.dr 1000
def okAt (l : List Cls) (i : Nat) : Bool := match l[i]? with | some c => rightB c && decide (findI l c.nm = (i : Int)) | none => true
/-- the six tests of a class, in the order of the text: all hold, or the first that does not -/
theorem tests6 (a b c d e f : Bool) : (a = true ∧ b = true ∧ c = true ∧ d = true ∧ e = true ∧ f = true) ∨ a = false ∨ (a = true ∧ b = false) ∨ (a = true ∧ b = true ∧ c = false) ∨
    (a = true ∧ b = true ∧ c = true ∧ d = false) ∨ (a = true ∧ b = true ∧ c = true ∧ d = true ∧ e = false) ∨ (a = true ∧ b = true ∧ c = true ∧ d = true ∧ e = true ∧ f = false) := by
  cases a <;> cases b <;> cases c <;> cases d <;> cases e <;> cases f <;> simp
theorem okAt_six {l : List Cls} {i : Nat} (h : i < l.length) : okAt l i = (nameB l[i].nm.data.toList && decide (findI l l[i].nm = (i : Int)) && inB l[i].se 1000 && inB l[i].we 100000 && inB l[i].ro 1000000 && inB l[i].dr 1000) := by
  simp only [okAt, List.getElem?_eq_getElem h, rightB]
  generalize nameB l[i].nm.data.toList = a; generalize decide (findI l l[i].nm = (i : Int)) = b; generalize inB l[i].se 1000 = c; generalize inB l[i].we 100000 = d; generalize inB l[i].ro 1000000 = e; generalize inB l[i].dr 1000 = f
  cases a <;> cases b <;> cases c <;> cases d <;> cases e <;> cases f <;> rfl
def validB (l : List Cls) : Bool := decide (1 ≤ l.length) && decide (l.length ≤ 16) && (List.range l.length).all (okAt l)
theorem okAt_get {l : List Cls} {i : Nat} (h : i < l.length) : okAt l i = (rightB l[i] && decide (findI l l[i].nm = (i : Int))) := by
  simp [okAt, List.getElem?_eq_getElem h]
theorem validB_len0 {l : List Cls} (h : ¬ 1 ≤ l.length) : validB l = false := by simp [validB, h]
theorem validB_len1 {l : List Cls} (h : ¬ l.length ≤ 16) : validB l = false := by simp [validB, h]
theorem validB_not {l : List Cls} {i : Nat} (h : i < l.length) (hn : okAt l i = false) : validB l = false := by
  have : (List.range l.length).all (okAt l) = false := by
    rw [List.all_eq_false]
    exact ⟨i, List.mem_range.2 h, by simp [hn]⟩
  simp [validB, this]
theorem validB_yes {l : List Cls} (h1 : 1 ≤ l.length) (h2 : l.length ≤ 16) (h : ∀ i, i < l.length → okAt l i = true) : validB l = true := by
  have : (List.range l.length).all (okAt l) = true := by
    rw [List.all_eq_true]
    intro x hx
    exact h x (List.mem_range.1 hx)
  simp [validB, this, h1, h2]
theorem validB_one (c : Cls) : validB [c] = rightB c := by
  have h0 : findI [c] c.nm = 0 := findI_yes (l := [c]) (k := 0) (by simp) (by intros; omega) (sameS_self _)
  simp [validB, okAt, h0]
theorem of_validB {l : List Cls} (h : validB l = true) : 1 ≤ l.length ∧ l.length ≤ 16 ∧ ∀ i (hi : i < l.length), rightB l[i] = true ∧ findI l l[i].nm = (i : Int) := by
  simp only [validB, Bool.and_eq_true, decide_eq_true_eq, List.all_eq_true, List.mem_range] at h
  refine ⟨h.1.1, h.1.2, fun i hi => ?_⟩
  have := h.2 i hi
  rw [okAt_get hi] at this
  simpa using this
theorem of_rightB {c : Cls} (h : rightB c = true) : nameB c.nm.data.toList = true ∧ 0 ≤ c.se ∧ c.se ≤ 1000 ∧ 0 ≤ c.we ∧ c.we ≤ 100000 ∧ 0 ≤ c.ro ∧ c.ro ≤ 1000000 ∧ 0 ≤ c.dr ∧ c.dr ≤ 1000 := by
  simp only [rightB, Bool.and_eq_true, inB_iff] at h
  obtain ⟨⟨⟨⟨h1, h2⟩, h3⟩, h4⟩, h5⟩ := h
  exact ⟨h1, h2.1, h2.2, h3.1, h3.2, h4.1, h4.2, h5.1, h5.2⟩
end Go.Proofs.YtaaadejamjbcbaaDoor
