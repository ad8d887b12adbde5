/- Parts of one proof, joined: Classes of land use in memory, and when a list of them is valid, said of lists. Lists of classes as texts: what the program and the reference read, and write; that a list is read from its text, and what is read has the text; plain facts. Bytes of strings: the rest of a string from a place on. The program's IsName: it reports whether a string is a name, for every string; it leaves the world as it is. landuse.Valid and the reference's Valid: both report whether a list of classes is valid, for every list; nothing that was there is turned. Decimal integers without sign of at most nine digits: the program's number: what each returns; nothing that was there is turned. -/
import Derived.Test.YtaaadejamjbcbaaGreatDoorPkLanduseAreas17
import Derived.Test.YtaaadejamjbcbaaGreatDoorPkLanduseAreas5
namespace Go.Proofs.YtaaadejamjbcbaaGreatDoor
open Go.RowKit

structure Cls where
  nm : ByteArray
  se : Int
  we : Int
  ro : Int
  dr : Int
abbrev Cls.val (c : Cls) : Value := .agg #[.string c.nm, .int .i64 c.se, .int .i64 c.we, .int .i64 c.ro, .int .i64 c.dr]
def sameS (a b : ByteArray) : Bool := a.toList == b.toList
theorem sameS_self (a : ByteArray) : sameS a a = true := by simp [sameS]

def ClsAt (w : World) (b o : Nat) (c : Cls) : Prop :=
  w.cell? ⟨b, o, none⟩ = some (.string c.nm) ∧ w.cell? ⟨b, o + 1, none⟩ = some (.int .i64 c.se) ∧ w.cell? ⟨b, o + 2, none⟩ = some (.int .i64 c.we) ∧
    w.cell? ⟨b, o + 3, none⟩ = some (.int .i64 c.ro) ∧ w.cell? ⟨b, o + 4, none⟩ = some (.int .i64 c.dr)
theorem ClsAt.below {w w' : World} {b o : Nat} {c : Cls} (h : ClsAt w b o c) (hb : Below w.heap.size w w') : ClsAt w' b o c := by
  have hlt := lt_of_cell h.1
  have k := fun (i : Nat) => hb.cell (p := ⟨b, i, none⟩) hlt
  exact ⟨(k _).trans h.1, (k _).trans h.2.1, (k _).trans h.2.2.1, (k _).trans h.2.2.2.1, (k _).trans h.2.2.2.2⟩
/-- a slice of classes that reads as a list -/
def ClsSl (w : World) (A : Option Addr) (l : List Cls) : Prop :=
  (l.length ≤ maxLen ∧ ∀ i (h : i < l.length), l[i].nm.size ≤ maxLen) ∧ (0 < l.length → ∃ b off, A = some ⟨b, off, none⟩ ∧ b < w.heap.size ∧ ∀ i (h : i < l.length), ClsAt w b (off + i * 5) l[i])
theorem ClsSl.below {w w' : World} {A : Option Addr} {l : List Cls} (h : ClsSl w A l) (hb : Below w.heap.size w w') : ClsSl w' A l :=
  ⟨h.1, fun hl => by obtain ⟨b, off, e, hlt, hat⟩ := h.2 hl; exact ⟨b, off, e, Nat.lt_of_lt_of_le hlt hb.size, fun i hi => (hat i hi).below hb⟩⟩

def findI (l : List Cls) (nm : ByteArray) : Int := match l.findIdx? (fun c => sameS c.nm nm) with | some i => (i : Int) | none => -1
theorem findI_no {l : List Cls} {nm : ByteArray} (h : ∀ i (hi : i < l.length), sameS l[i].nm nm = false) : findI l nm = -1 := by
  have : l.findIdx? (fun c => sameS c.nm nm) = none := by
    rw [List.findIdx?_eq_none_iff]
    intro x hx
    obtain ⟨i, hi, rfl⟩ := List.mem_iff_getElem.1 hx
    exact h i hi
  simp [findI, this]
theorem findI_yes {l : List Cls} {nm : ByteArray} {k : Nat} (hk : k < l.length) (h : ∀ i (hi : i < l.length), i < k → sameS l[i].nm nm = false) (hy : sameS l[k].nm nm = true) : findI l nm = k := by
  have : l.findIdx? (fun c => sameS c.nm nm) = some k := by
    rw [List.findIdx?_eq_some_iff_getElem]
    exact ⟨hk, hy, fun j hj => by rw [h j (by omega) hj]; simp⟩
  simp [findI, this]
theorem findI_bd (l : List Cls) (nm : ByteArray) : -1 ≤ findI l nm ∧ findI l nm ≤ l.length := by
  unfold findI
  split
  · rename_i i h
    rw [List.findIdx?_eq_some_iff_getElem] at h
    obtain ⟨h, _⟩ := h
    omega
  · omega
/-- the numbers and the name of a class are right -/
def inB (n m : Int) : Bool := decide (0 ≤ n ∧ n ≤ m)
theorem inB_iff {n m : Int} : inB n m = true ↔ 0 ≤ n ∧ n ≤ m := by simp [inB]
theorem inB_not {n m : Int} : inB n m = false ↔ n < 0 ∨ m < n := by simp [inB]; omega
def rightB (c : Cls) : Bool := nameB c.nm.data.toList && inB c.se 1000 && inB c.we 100000 && inB c.ro 1000000 && inB c.dr 1000
def okAt (l : List Cls) (i : Nat) : Bool := match l[i]? with | some c => rightB c && decide (findI l c.nm = (i : Int)) | none => true
/-- the six tests of a class, in the order of the text: all hold, or the first that does not -/
theorem tests6 (a b c d e f : Bool) : (a = true ∧ b = true ∧ c = true ∧ d = true ∧ e = true ∧ f = true) ∨ a = false ∨ (a = true ∧ b = false) ∨ (a = true ∧ b = true ∧ c = false) ∨
    (a = true ∧ b = true ∧ c = true ∧ d = false) ∨ (a = true ∧ b = true ∧ c = true ∧ d = true ∧ e = false) ∨ (a = true ∧ b = true ∧ c = true ∧ d = true ∧ e = true ∧ f = false) := by
  cases a <;> cases b <;> cases c <;> cases d <;> cases e <;> cases f <;> simp
theorem okAt_six {l : List Cls} {i : Nat} (h : i < l.length) : okAt l i = (nameB l[i].nm.data.toList && decide (findI l l[i].nm = (i : Int)) && inB l[i].se 1000 && inB l[i].we 100000 && inB l[i].ro 1000000 && inB l[i].dr 1000) := by
  simp only [okAt, List.getElem?_eq_getElem h, rightB]
  generalize nameB l[i].nm.data.toList = a; generalize decide (findI l l[i].nm = (i : Int)) = b; generalize inB l[i].se 1000 = c; generalize inB l[i].we 100000 = d; generalize inB l[i].ro 1000000 = e; generalize inB l[i].dr 1000 = f
  cases a <;> cases b <;> cases c <;> cases d <;> cases e <;> cases f <;> rfl
def validB (l : List Cls) : Bool := decide (1 ≤ l.length) && decide (l.length ≤ 16) && (List.range l.length).all (okAt l)
theorem okAt_get {l : List Cls} {i : Nat} (h : i < l.length) : okAt l i = (rightB l[i] && decide (findI l l[i].nm = (i : Int))) := by
  simp [okAt, List.getElem?_eq_getElem h]
theorem validB_len0 {l : List Cls} (h : ¬ 1 ≤ l.length) : validB l = false := by simp [validB, h]
theorem validB_len1 {l : List Cls} (h : ¬ l.length ≤ 16) : validB l = false := by simp [validB, h]
theorem validB_not {l : List Cls} {i : Nat} (h : i < l.length) (hn : okAt l i = false) : validB l = false := by
  have : (List.range l.length).all (okAt l) = false := by
    rw [List.all_eq_false]
    exact ⟨i, List.mem_range.2 h, by simp [hn]⟩
  simp [validB, this]
theorem validB_yes {l : List Cls} (h1 : 1 ≤ l.length) (h2 : l.length ≤ 16) (h : ∀ i, i < l.length → okAt l i = true) : validB l = true := by
  have : (List.range l.length).all (okAt l) = true := by
    rw [List.all_eq_true]
    intro x hx
    exact h x (List.mem_range.1 hx)
  simp [validB, this, h1, h2]
theorem validB_one (c : Cls) : validB [c] = rightB c := by
  have h0 : findI [c] c.nm = 0 := findI_yes (l := [c]) (k := 0) (by simp) (by intros; omega) (sameS_self _)
  simp [validB, okAt, h0]
theorem of_validB {l : List Cls} (h : validB l = true) : 1 ≤ l.length ∧ l.length ≤ 16 ∧ ∀ i (hi : i < l.length), rightB l[i] = true ∧ findI l l[i].nm = (i : Int) := by
  simp only [validB, Bool.and_eq_true, decide_eq_true_eq, List.all_eq_true, List.mem_range] at h
  refine ⟨h.1.1, h.1.2, fun i hi => ?_⟩
  have := h.2 i hi
  rw [okAt_get hi] at this
  simpa using this
theorem of_rightB {c : Cls} (h : rightB c = true) : nameB c.nm.data.toList = true ∧ 0 ≤ c.se ∧ c.se ≤ 1000 ∧ 0 ≤ c.we ∧ c.we ≤ 100000 ∧ 0 ≤ c.ro ∧ c.ro ≤ 1000000 ∧ 0 ≤ c.dr ∧ c.dr ≤ 1000 := by
  simp only [rightB, Bool.and_eq_true, inB_iff] at h
  obtain ⟨⟨⟨⟨h1, h2⟩, h3⟩, h4⟩, h5⟩ := h
  exact ⟨h1, h2.1, h2.2, h3.1, h3.2, h4.1, h4.2, h5.1, h5.2⟩
end Go.Proofs.YtaaadejamjbcbaaGreatDoor

namespace Go.Proofs.YtaaadejamjbcbaaGreatDoor
open Go Go.Lib

/-- a class by its words -/
def cnvB (ws : List (List UInt8)) : Bool := match ws with
  | [a, b, c, d, e] => nameB a && rnB b && rnB c && rnB d && rnB e
  | _ => false
def cnvC (ws : List (List UInt8)) : Cls := match ws with
  | [a, b, c, d, e] => ⟨⟨a.toArray⟩, (valL 0 b : Nat), (valL 0 c : Nat), (valL 0 d : Nat), (valL 0 e : Nat)⟩
  | _ => ⟨⟨#[]⟩, 0, 0, 0, 0⟩
def clB (l : List UInt8) : Bool := cnvB (pts 32 l)
def clC (l : List UInt8) : Cls := cnvC (pts 32 l)
def doneE (acc : List Cls) : Int := if validB acc then 0 else 1
def doneL (acc : List Cls) : List Cls := if validB acc then acc else []
/-- what is read of parts: the list, the line of an error (0: none), and the error -/
def prs : List (List UInt8) → Nat → List Cls → List Cls × Int × Int
  | [], _, acc => (doneL acc, 0, doneE acc)
  | [p], i, acc => if p = [] then (doneL acc, 0, doneE acc) else ([], (i : Int) + 1, 7)
  | p :: q :: r, i, acc => if clB p = true then prs (q :: r) (i + 1) (acc ++ [clC p]) else ([], (i : Int) + 1, 7)
/-- the same, of lines -/
def prsL : List (List UInt8) → Nat → List Cls → List Cls × Int × Int
  | [], _, acc => (doneL acc, 0, doneE acc)
  | x :: r, i, acc => if clB (bodyL x) = true ∧ endB x = true then prsL r (i + 1) (acc ++ [clC (bodyL x)]) else ([], (i : Int) + 1, 7)
theorem prs_lines : ∀ (ps : List (List UInt8)), (∀ p ∈ ps, (10 : UInt8) ∉ p) → ∀ i acc, prs ps i acc = prsL (lnsOf ps) i acc
  | [], _, _, _ => rfl
  | [p], h, i, acc => by
    rw [prs, lnsOf]
    by_cases hp : p = []
    · rw [if_pos hp, if_pos hp]; rfl
    · rw [if_neg hp, if_neg hp, prsL, end_no (h p (List.mem_cons_self ..))]
      simp
  | p :: q :: r, h, i, acc => by
    rw [prs, lnsOf, prsL, (end_yes p).1, (end_yes p).2, prs_lines (q :: r) (fun x hx => h x (List.mem_cons_of_mem _ hx))]
    simp
theorem prs_lns (s : List UInt8) : prs (pts 10 s) 0 [] = prsL (lns s) 0 [] := prs_lines _ (fun p hp => pts_mem p hp) 0 []
/-- the text of a class, without the line's end; of a list -/
def txC (c : Cls) : List UInt8 := c.nm.data.toList ++ (32 :: itoa c.se) ++ (32 :: itoa c.we) ++ (32 :: itoa c.ro) ++ (32 :: itoa c.dr)
def txL : List Cls → List UInt8
  | [] => []
  | c :: r => txC c ++ 10 :: txL r
theorem txL_append (a b : List Cls) : txL (a ++ b) = txL a ++ txL b := by
  induction a with
  | nil => rfl
  | cons c a ih => simp [txL, ih]
theorem name_no {c : UInt8} (h : c.toNat < 48) {l : List UInt8} (hl : nameB l = true) : c ∉ l := by
  cases l with
  | nil => simp
  | cons x r =>
    simp only [nameB, Bool.and_eq_true, decide_eq_true_eq] at hl
    have hw := hl.2
    have hall : ∀ y ∈ x :: r, wdB (y.toNat : Int) = true := by
      unfold wl at hw
      have e : ((x :: r).takeWhile fun b => wdB (b.toNat : Int)) = x :: r := List.IsPrefix.eq_of_length (List.takeWhile_prefix _) (by simpa using hw)
      have ha : ((x :: r).takeWhile fun b => wdB (b.toNat : Int)).all (fun b => wdB (b.toNat : Int)) = true := List.all_takeWhile
      rw [e, List.all_eq_true] at ha
      exact ha
    intro e
    have := hall c e
    simp only [wdB, letB, digB, Bool.or_eq_true, decide_eq_true_eq, beq_iff_eq] at this
    omega
theorem pts_txC {c : Cls} (h : rightB c = true) : pts 32 (txC c) = [c.nm.data.toList, itoa c.se, itoa c.we, itoa c.ro, itoa c.dr] := by
  obtain ⟨hn, _⟩ := of_rightB h
  have e : txC c = c.nm.data.toList ++ 32 :: (itoa c.se ++ 32 :: (itoa c.we ++ 32 :: (itoa c.ro ++ 32 :: itoa c.dr))) := by simp [txC]
  rw [e, pts_at (name_no (by decide) hn), pts_at (itoa_no (by decide) _), pts_at (itoa_no (by decide) _), pts_at (itoa_no (by decide) _), pts_no (itoa_no (by decide) _)]
theorem txC_no {c : Cls} (h : rightB c = true) : (10 : UInt8) ∉ txC c := by
  obtain ⟨hn, _⟩ := of_rightB h
  have h0 := name_no (c := 10) (by decide) hn
  have h1 := itoa_no (c := 10) (by decide) c.se
  have h2 := itoa_no (c := 10) (by decide) c.we
  have h3 := itoa_no (c := 10) (by decide) c.ro
  have h4 := itoa_no (c := 10) (by decide) c.dr
  simp [txC, h0, h1, h2, h3, h4]
theorem cl_txC {c : Cls} (h : rightB c = true) : clB (txC c) = true ∧ clC (txC c) = c := by
  obtain ⟨hn, h1, h2, h3, h4, h5, h6, h7, h8⟩ := of_rightB h
  obtain ⟨a1, b1⟩ := rn_dec h1 (by omega)
  obtain ⟨a2, b2⟩ := rn_dec h3 (by omega)
  obtain ⟨a3, b3⟩ := rn_dec h5 (by omega)
  obtain ⟨a4, b4⟩ := rn_dec h7 (by omega)
  unfold clB clC
  rw [pts_txC h]
  refine ⟨by simp [cnvB, hn, a1, a2, a3, a4], ?_⟩
  simp only [cnvC, b1, b2, b3, b4]
/-- a list is read from its text -/
theorem prs_txL : ∀ (l acc : List Cls) (i : Nat), (∀ c ∈ l, rightB c = true) → prs (pts 10 (txL l)) i acc = (doneL (acc ++ l), 0, doneE (acc ++ l))
  | [], acc, i, _ => by simp [txL, pts, prs]
  | c :: r, acc, i, h => by
    have hc := h c (List.mem_cons_self ..)
    have ih := prs_txL r (acc ++ [c]) (i + 1) (fun x hx => h x (List.mem_cons_of_mem _ hx))
    rw [txL, pts_at (txC_no hc)]
    cases hp : pts 10 (txL r) with
    | nil => exact absurd hp (pts_ne 10 _)
    | cons q t =>
      rw [hp] at ih
      rw [prs, (cl_txC hc).1, if_pos rfl, (cl_txC hc).2, ih, List.append_assoc]
      rfl
theorem valid_right {l : List Cls} (h : validB l = true) : ∀ c ∈ l, rightB c = true := by
  intro c hc
  obtain ⟨i, hi, rfl⟩ := List.mem_iff_getElem.1 hc
  exact ((of_validB h).2.2 i hi).1
theorem read_text {l : List Cls} (h : validB l = true) : prs (pts 10 (txL l)) 0 [] = (l, 0, 0) := by
  rw [prs_txL l [] 0 (valid_right h), List.nil_append, doneL, doneE, if_pos h, if_pos h]
theorem cl_back {p : List UInt8} (h : clB p = true) : txC (clC p) = p := by
  unfold clB at h
  unfold clC
  have hj := jn_pts 32 p
  generalize pts 32 p = ws at *
  match ws, h with
  | [a, b, c, d, e], h =>
    simp only [cnvB, Bool.and_eq_true] at h
    obtain ⟨⟨⟨⟨_, h1⟩, h2⟩, h3⟩, h4⟩ := h
    rw [← hj]
    simp only [cnvC, txC, num_back h1, num_back h2, num_back h3, num_back h4, jn]
    simp
theorem prs_back : ∀ (ps : List (List UInt8)) (i : Nat) (acc x : List Cls), ps ≠ [] → prs ps i acc = (x, 0, 0) → txL x = txL acc ++ jn 10 ps ∧ validB x = true
  | [], _, _, _, h, _ => absurd rfl h
  | [p], i, acc, x, _, h => by
    rw [prs] at h
    by_cases hp : p = []
    · rw [if_pos hp] at h
      unfold doneL doneE at h
      by_cases hv : validB acc = true
      · rw [if_pos hv, if_pos hv] at h
        injection h with h _
        subst h hp
        exact ⟨by simp [jn], hv⟩
      · rw [if_neg hv, if_neg hv] at h
        injection h with _ h
        injection h with _ h
        exact absurd h (by decide)
    · rw [if_neg hp] at h
      injection h with _ h
      injection h with _ h
      exact absurd h (by decide)
  | p :: q :: r, i, acc, x, _, h => by
    rw [prs] at h
    by_cases hc : clB p = true
    · rw [if_pos hc] at h
      obtain ⟨h1, h2⟩ := prs_back (q :: r) (i + 1) (acc ++ [clC p]) x (by simp) h
      refine ⟨?_, h2⟩
      rw [h1, txL_append, jn]
      simp [txL, cl_back hc]
    · rw [if_neg hc] at h
      injection h with _ h
      injection h with _ h
      exact absurd h (by decide)
theorem text_read {s : List UInt8} {x : List Cls} (h : prs (pts 10 s) 0 [] = (x, 0, 0)) : txL x = s ∧ validB x = true := by
  obtain ⟨h1, h2⟩ := prs_back _ _ _ _ (pts_ne 10 s) h
  exact ⟨by rw [h1, jn_pts]; rfl, h2⟩
/-- no error, then no line; an error, then nothing is read -/
theorem prs_err : ∀ (ps : List (List UInt8)) (i : Nat) (acc : List Cls), ((prs ps i acc).2.2 = 0 → (prs ps i acc).2.1 = 0) ∧ ((prs ps i acc).2.2 ≠ 0 → (prs ps i acc).1 = []) ∧ 0 ≤ (prs ps i acc).2.1 ∧ (prs ps i acc).2.1 ≤ i + ps.length ∧ 0 ≤ (prs ps i acc).2.2 ∧ (prs ps i acc).2.2 ≤ 7
  | [], i, acc => by
    rw [prs]
    unfold doneL doneE
    split <;> simp <;> omega
  | [p], i, acc => by
    rw [prs]
    unfold doneL doneE
    split
    · split <;> simp <;> omega
    · simp; omega
  | p :: q :: r, i, acc => by
    have ih := prs_err (q :: r) (i + 1) (acc ++ [clC p])
    rw [prs]
    split
    · refine ⟨ih.1, ih.2.1, ih.2.2.1, ?_, ih.2.2.2.2⟩
      have := ih.2.2.2.1
      simp at this ⊢
      omega
    · simp; omega
end Go.Proofs.YtaaadejamjbcbaaGreatDoor

namespace Go.Proofs.YtaaadejamjbcbaaGreatDoor
open Go Go.RowKit

theorem drop_byteD (s : ByteArray) (k : Nat) (h : k < s.size) : s.data.toList.drop k = s[k] :: s.data.toList.drop (k + 1) := by
  rw [List.drop_eq_getElem_cons (by simpa using h)]; rfl
theorem byteD (b : UInt8) : (0 : Int) ≤ (b.toNat : Int) ∧ (b.toNat : Int) < 256 := ⟨by omega, by have := b.toNat_lt; omega⟩
theorem head_byte (s : ByteArray) (h : 0 < s.size) : s.data.toList.head? = some s[0] := by
  have := drop_byteD s 0 h
  rw [List.drop_zero] at this
  rw [this]; rfl
theorem enc_digit (d : Nat) (h : d < 10) : Utf8.encode (48 + (d : Int)) = ⟨#[UInt8.ofNat (48 + d)]⟩ := by
  have key : ∀ d : Fin 10, Utf8.encode (48 + (d.val : Int)) = ⟨#[UInt8.ofNat (48 + d.val)]⟩ := by decide +kernel
  exact key ⟨d, h⟩
/-- the numeral by its last digit -/
theorem itoa_last {n : Int} {q : Int} {d : Nat} (h : 10 ≤ n.natAbs) (hq : n.tdiv 10 = q) (hd : (n.tmod 10).natAbs = d) : Lib.itoa n = Lib.itoa q ++ [UInt8.ofNat (48 + d)] := by
  have e1 : q.natAbs = n.natAbs / 10 := by rw [← hq, Int.natAbs_tdiv]; rfl
  have e2 : d = n.natAbs % 10 := by rw [← hd, Int.natAbs_tmod]; rfl
  by_cases hn : n < 0
  · have rb : d < 10 := by rw [e2]; exact Nat.mod_lt _ (by decide)
    have rq := Int.tmod_add_mul_tdiv n 10
    rw [hq] at rq
    have qn : q < 0 := by omega
    rw [itoa_neg hn, itoa_neg qn, dec_big (by omega), e1, e2]; rfl
  · have qn : ¬ q < 0 := by
      have : 0 ≤ n.tdiv 10 := Int.tdiv_nonneg (by omega) (by omega)
      omega
    rw [itoa_pos (by omega), itoa_pos (by omega), dec_big (by omega), show n.toNat = n.natAbs by omega, show q.toNat = q.natAbs by omega, e1, e2]
theorem itoa_first {n : Int} {d : Nat} (h : n.natAbs = d) (hd : d < 10) : Lib.itoa n = (if n < 0 then [45] else []) ++ [UInt8.ofNat (48 + d)] := by
  by_cases hn : n < 0
  · rw [itoa_neg hn, if_pos hn, h, dec_small hd]; rfl
  · rw [itoa_pos (by omega), if_neg hn, show n.toNat = d by omega, dec_small hd]; rfl
end Go.Proofs.YtaaadejamjbcbaaGreatDoor

namespace Go.Proofs.YtaaadejamjbcbaaGreatDoor
open Go.RowKit

set_option maxHeartbeats 400000 in
theorem letter_any (c : Int) (w : World) : Calls Tryz.prog 62 #[.int .u8 c] w fun e w' => e = .returned (.bool (letB c)) ∧ w = w' := by
  by_cases h1 : 97 ≤ c <;> by_cases h2 : c ≤ 122 <;> by_cases h3 : 65 ≤ c <;> by_cases h4 : c ≤ 90
  all_goals
    go_enter Tryz.func62, Tryz.ntmps62
    go_wp2
    go_ret
    refine ⟨ret_bool ?_, rfl⟩
    simp [letB, h1, h2, h3, h4]
set_option maxHeartbeats 400000 in
theorem digit_any (c : Int) (w : World) : Calls Tryz.prog 85 #[.int .u8 c] w fun e w' => e = .returned (.bool (digB c)) ∧ w = w' := by
  by_cases h1 : 48 ≤ c <;> by_cases h2 : c ≤ 57
  all_goals
    go_enter Tryz.func85, Tryz.ntmps85
    go_wp2
    go_ret
    refine ⟨ret_bool ?_, rfl⟩
    simp [digB, h1, h2]
theorem wd_let {c : Int} (h : letB c = true) : wdB c = true := by simp [wdB, h]
theorem wd_dig {c : Int} (h2 : digB c = true) : wdB c = true := by simp [wdB, h2]
theorem wd_und {c : Int} (h : letB c = false) (h2 : digB c = false) : wdB c = (c == 95) := by simp [wdB, h, h2]

set_option maxHeartbeats 1000000 in
theorem word_any (s : ByteArray) (w : World) (hs : s.size ≤ maxLen) :
    Calls Tryz.prog 63 #[.string s] w fun e w' => e = .returned (.int .i64 (wl s.data.toList)) ∧ w = w' := by
  unfold maxLen at hs
  go_enter Tryz.func63, Tryz.ntmps63
  go_wp2
  go_loop [3] (fun i => ∃ k : Nat, k ≤ s.size ∧ i = .int .i64 k ∧ Hid (wl s.data.toList = k + wl (s.data.toList.drop k))) (fun i => s.size - (intOf i).toNat)
  case atStart => exact ⟨0, Nat.zero_le _, rfl, hide (by simp)⟩
  case round =>
    obtain ⟨k, hk, rfl, hw⟩ := hrel
    by_cases hlt : k < s.size
    · have hat := hide (wl_at s k hlt hw.out)
      have hbd := byte_bd s[k]
      by_cases h1 : letB (s[k].toNat : Int) = true
      · have h1' := hide (wd_let h1)
        go_wp2_with (first | (go_at_call 62; refine (letter_any _ _).mono ?_; rintro e w' ⟨rfl, rfl⟩))
        go_round
        case rel => exact ⟨k + 1, by omega, by go_num, hide (by have := hat.out; rw [if_pos h1'.out] at this; omega)⟩
        case measure => simp [intOf]; omega
      · have h1 : letB (s[k].toNat : Int) = false := by simpa using h1
        by_cases h2 : digB (s[k].toNat : Int) = true
        · have h1' := hide (wd_dig h2)
          go_wp2_with (first | (go_at_call 62; refine (letter_any _ _).mono ?_; rintro e w' ⟨rfl, rfl⟩) | (go_at_call 85; refine (digit_any _ _).mono ?_; rintro e w' ⟨rfl, rfl⟩))
          go_round
          case rel => exact ⟨k + 1, by omega, by go_num, hide (by have := hat.out; rw [if_pos h1'.out] at this; omega)⟩
          case measure => simp [intOf]; omega
        · have h2 : digB (s[k].toNat : Int) = false := by simpa using h2
          have h3' := hide (wd_und h1 h2)
          by_cases h3 : ((s[k].toNat : Int) == 95) = true
          · have h3'' := hide h3
            go_wp2_with (first | (go_at_call 62; refine (letter_any _ _).mono ?_; rintro e w' ⟨rfl, rfl⟩) | (go_at_call 85; refine (digit_any _ _).mono ?_; rintro e w' ⟨rfl, rfl⟩))
            go_round
            case rel => exact ⟨k + 1, by omega, by go_num, hide (by have := hat.out; rw [if_pos (h3'.out.trans h3''.out)] at this; omega)⟩
            case measure => simp [intOf]; omega
          · have h3 : ((s[k].toNat : Int) == 95) = false := by simpa using h3
            have h3'' := hide h3
            go_wp2_with (first | (go_at_call 62; refine (letter_any _ _).mono ?_; rintro e w' ⟨rfl, rfl⟩) | (go_at_call 85; refine (digit_any _ _).mono ?_; rintro e w' ⟨rfl, rfl⟩))
            go_ret
            refine ⟨ret_int ?_, rfl⟩
            have := hat.out
            rw [if_neg (by rw [h3'.out, h3''.out]; simp)] at this
            omega
    · have he : k = s.size := by omega
      have hq := hide (wl_end s (he ▸ hw.out))
      clear he
      go_wp2
      go_ret
      refine ⟨ret_int ?_, rfl⟩
      have := hq.out
      omega
theorem empty_of {s : ByteArray} (h : s.size = 0) : (!s.toList.isEmpty) = false := by
  rw [ByteArray.toList_eq]
  have : s.data.toList = [] := by apply List.eq_nil_of_length_eq_zero; simpa using h
  rw [this]; rfl
theorem full_of {s : ByteArray} (h : 0 < s.size) : (!s.toList.isEmpty) = true := by
  rw [ByteArray.toList_eq]
  cases e : s.data.toList with
  | nil =>
    have h2 : s.data.toList.length = s.size := Array.length_toList
    rw [e] at h2; simp at h2; omega
  | cons => rfl
set_option maxHeartbeats 1000000 in
theorem isname_any (s : ByteArray) (w : World) (hs : s.size ≤ maxLen) :
    Calls Tryz.prog 41 #[.string s] w fun e w' => e = .returned (.bool (nameB s.data.toList)) ∧ w = w' := by
  have hs' := hs
  unfold maxLen at hs
  by_cases h0 : s.size = 0
  · have hn := hide (nameB_nil s h0)
    have he' := empty_of h0
    go_enter Tryz.func41, Tryz.ntmps41
    go_wp2
    go_ret
    exact ⟨ret_bool hn.out.symm, rfl⟩
  · have hn := hide (nameB_at s (by omega))
    have hp : 0 < s.size := by omega
    have he := full_of hp
    by_cases h1 : s.size ≤ 20 <;> by_cases h2 : letB (s[0].toNat : Int) = true
    all_goals
      go_enter Tryz.func41, Tryz.ntmps41
      go_wp2_with (first | (go_at_call 62; refine (letter_any _ _).mono ?_; rintro e w' ⟨rfl, rfl⟩) | (go_at_call 63; refine (word_any _ _ hs').mono ?_; rintro e w' ⟨rfl, rfl⟩))
      go_ret
      refine ⟨ret_bool ?_, rfl⟩
      rw [hn.out]
      simp [h1, h2]
    rw [Bool.eq_iff_iff]; simp; omega
end Go.Proofs.YtaaadejamjbcbaaGreatDoor

namespace Go.Proofs.YtaaadejamjbcbaaGreatDoor
open Go.RowKit

set_option maxHeartbeats 400000 in
theorem luwithin_any (n m : Int) (w : World) :
    Calls Tryz.prog 23 #[.int .i64 n, .int .i64 m] w fun e w' => e = .returned (.bool (inB n m)) ∧ w = w' := by
  by_cases h1 : 0 ≤ n <;> by_cases h2 : n ≤ m
  all_goals
    go_enter Tryz.func23, Tryz.ntmps23
    go_wp2
    go_ret
    refine ⟨ret_bool ?_, rfl⟩
    simp [inB, h1, h2]

set_option maxHeartbeats 400000 in
theorem clo_any (c : Cls) (b : Nat) (nm : ByteArray) (w : World) (hb : b < w.heap.size) (h0 : w.cell? ⟨b, 0, none⟩ = some (.string nm)) :
    Calls Tryz.prog 65 #[c.val, .pointer (some ⟨b, 0, none⟩)] w fun e w' => e = .returned (.bool (sameS c.nm nm)) ∧ Below w.heap.size w w' := by
  go_enter Tryz.func65, Tryz.ntmps65
  go_wp2
  go_ret
  exact ⟨ret_bool rfl, by go_grown⟩

set_option maxHeartbeats 1000000 in
theorem idxf_any (l : List Cls) (A : Option Addr) (cap bs : Nat) (nm : ByteArray) (w : World) (hl : ClsSl w A l) (h0 : w.cell? ⟨bs, 0, none⟩ = some (.string nm)) :
    Calls Tryz.prog 64 #[.slice A l.length cap, .func (.func 65) #[] #[.pointer (some ⟨bs, 0, none⟩)]] w
      fun e w' => e = .returned (.int .i64 (findI l nm)) ∧ Below w.heap.size w w' := by
  have hlen : l.length ≤ 9223372036854775807 := hl.1.1
  have hbs : bs < w.heap.size := lt_of_cell h0
  have H := hide hl
  clear hl
  have H0 := hide h0
  clear h0
  go_enter Tryz.func64, Tryz.ntmps64
  go_wp2
  go_loopw [8] (fun v8 wr => ∃ k : Nat, k ≤ l.length ∧ v8 = .int .i64 k ∧ Below w.heap.size w wr ∧ Hid (∀ i (hi : i < l.length), i < k → sameS l[i].nm nm = false)) (fun v8 _ => l.length - (intOf v8).toNat)
  case atStart => exact ⟨0, Nat.zero_le _, rfl, Below.refl _ _, hide (fun _ _ h => by omega)⟩
  case round =>
    obtain ⟨k, hk, rfl, hb, hno⟩ := hrel
    have hsz := hb.size
    by_cases hlt : k < l.length
    · obtain ⟨b, off, rfl, hbl, hat⟩ := (H.out.below hb).2 (by omega)
      obtain ⟨c0, c1, c2, c3, c4⟩ := hat k hlt
      clear hat
      have hc := (hb.cell (p := ⟨bs, 0, none⟩) hbs).trans H0.out
      have Hb := hide hb
      clear hb
      by_cases hs : sameS l[k].nm nm = true
      · go_wp2_with (go_at_call 65; refine (clo_any l[k] bs nm _ (by omega) hc).mono ?_; rintro e w' ⟨rfl, hb1⟩)
        go_ret
        exact ⟨ret_int (findI_yes hlt (fun i hi hik => hno.out i hi hik) hs).symm, Hb.out.trans (hb1.mono hsz)⟩
      · have hs : sameS l[k].nm nm = false := by simpa using hs
        go_wp2_with (go_at_call 65; refine (clo_any l[k] bs nm _ (by omega) hc).mono ?_; rintro e w' ⟨rfl, hb1⟩)
        go_roundw
        case rel =>
          refine ⟨k + 1, by omega, by go_num, Hb.out.trans (hb1.mono hsz), hide fun i hi hik => ?_⟩
          by_cases e : i = k
          · subst e; exact hs
          · exact hno.out i hi (by omega)
        case measure => simp [intOf]; omega
    · have Hb := hide hb
      clear hb
      go_wp2
      go_ret
      exact ⟨ret_int (findI_no fun i hi => hno.out i hi (by omega)).symm, Hb.out⟩

set_option maxHeartbeats 1000000 in
theorem index_any (l : List Cls) (A : Option Addr) (cap : Nat) (nm : ByteArray) (w : World) (hl : ClsSl w A l) :
    Calls Tryz.prog 42 #[.slice A l.length cap, .string nm] w fun e w' => e = .returned (.int .i64 (findI l nm)) ∧ Below w.heap.size w w' := by
  have H := hide (hl.below ((Below.refl w.heap.size w).alloc (Nat.le_refl _) (.cells #[.string nm] 9)))
  clear hl
  go_enter Tryz.func42, Tryz.ntmps42
  go_wp2_with (go_at_call 64; refine (idxf_any l A cap w.heap.size nm _ H.out (by go_cell)).mono ?_; rintro e w' ⟨rfl, hb1⟩)
  go_ret
  exact ⟨rfl, ((Below.refl _ _).alloc (Nat.le_refl _) _).trans (hb1.mono (by simp))⟩

set_option maxHeartbeats 2000000 in
theorem luvalid_any (l : List Cls) (A : Option Addr) (cap : Nat) (w : World) (hl : ClsSl w A l) :
    Calls Tryz.prog 21 #[.slice A l.length cap] w fun e w' => e = .returned (.bool (validB l)) ∧ Below w.heap.size w w' := by
  have hlen : l.length ≤ 9223372036854775807 := hl.1.1
  have H := hide hl
  clear hl
  by_cases h1 : 1 ≤ l.length
  case neg =>
    have hv := hide (validB_len0 h1)
    go_enter Tryz.func21, Tryz.ntmps21
    go_wp2
    go_ret
    exact ⟨ret_bool hv.out.symm, Below.refl _ _⟩
  by_cases h2 : l.length ≤ 16
  case neg =>
    have hv := hide (validB_len1 h2)
    go_enter Tryz.func21, Tryz.ntmps21
    go_wp2
    go_ret
    exact ⟨ret_bool hv.out.symm, Below.refl _ _⟩
  go_enter Tryz.func21, Tryz.ntmps21
  go_wp2
  go_loopw [15] (fun v wr => ∃ k : Nat, k ≤ l.length ∧ v = .int .i64 k ∧ Below w.heap.size w wr ∧ Hid (∀ i, i < k → okAt l i = true)) (fun v _ => l.length - (intOf v).toNat)
  case atStart => exact ⟨0, Nat.zero_le _, rfl, Below.refl _ _, hide (fun _ h => by omega)⟩
  case round =>
    obtain ⟨k, hk, rfl, hb, hno⟩ := hrel
    have hsz := hb.size
    by_cases hlt : k < l.length
    · have hsl := H.out.below hb
      obtain ⟨b, off, rfl, hbl, hat⟩ := hsl.2 (by omega)
      have hnm : l[k].nm.size ≤ maxLen := H.out.1.2 k hlt
      obtain ⟨c0, c1, c2, c3, c4⟩ := hat k hlt
      clear hat
      have Hb := hide hb
      have Hsl := hide (hsl.below ((Below.refl wr.heap.size wr).alloc (Nat.le_refl _) (.cells #[.string l[k].nm, .int .i64 l[k].se, .int .i64 l[k].we, .int .i64 l[k].ro, .int .i64 l[k].dr] 57)))
      clear hb hsl
      have hsix := hide (okAt_six hlt)
      have ht := tests6 (nameB l[k].nm.data.toList) (decide (findI l l[k].nm = (k : Int))) (inB l[k].se 1000) (inB l[k].we 100000) (inB l[k].ro 1000000) (inB l[k].dr 1000)
      simp only [decide_eq_true_eq, decide_eq_false_iff_not] at ht
      rcases ht with ⟨t1, t2, t3, t4, t5, t6⟩ | t1 | ⟨t1, t2⟩ | ⟨t1, t2, t3⟩ | ⟨t1, t2, t3, t4⟩ | ⟨t1, t2, t3, t4, t5⟩ | ⟨t1, t2, t3, t4, t5, t6⟩
      all_goals
        go_wp2_with (first | (go_at_call 41; refine (isname_any _ _ hnm).mono ?_; rintro e w' ⟨rfl, rfl⟩) | (go_at_call 23; refine (luwithin_any _ _ _).mono ?_; rintro e w' ⟨rfl, rfl⟩) | (go_at_call 42; refine (index_any l _ cap _ _ Hsl.out).mono ?_; rintro e w' ⟨rfl, hb1⟩; have hc1 := (bcell hb1).1; have hf1 := (bcell hb1).2))
      · go_roundw
        case rel =>
          refine ⟨k + 1, by omega, by go_num, below_via (Hb.out.alloc hsz _) (by simp; omega) hb1, hide fun i hi => ?_⟩
          by_cases e : i = k
          · subst e; rw [hsix.out]; simp [t1, t2, t3, t4, t5, t6]
          · exact hno.out i (by omega)
        case measure => simp [intOf]; omega
      all_goals
        have hv : validB l = false := validB_not hlt (by rw [hsix.out]; simp [*])
        go_ret
        exact ⟨ret_bool hv.symm, by first | exact below_via (Hb.out.alloc hsz _) (by simp; omega) hb1 | exact Hb.out.alloc hsz _⟩
    · have hv := hide (validB_yes h1 h2 (fun i hi => hno.out i (by omega)))
      have Hb := hide hb
      clear hb
      go_wp2
      go_ret
      exact ⟨ret_bool hv.out.symm, Hb.out⟩
end Go.Proofs.YtaaadejamjbcbaaGreatDoor

namespace Go.Proofs.YtaaadejamjbcbaaGreatDoor
open Go Go.RowKit

def NumPost (v : Int) (b : Bool) (w : World) (e : Ending) (w' : World) : Prop := e = .returned (.tuple #[.int .i64 v, .bool b]) ∧ Below w.heap.size w w'
theorem NumPost.mk2 {v : Int} {b b' : Bool} {w w' : World} (hb : Below w.heap.size w w') (h : b = b') : NumPost v b w (.returned (.tuple #[.int .i64 v, .bool b'])) w' := by subst h; exact ⟨rfl, hb⟩
set_option maxRecDepth 100000 in
set_option maxHeartbeats 1000000 in
theorem number_any (l : List UInt8) (w : World) (hl : l.length ≤ 281474976710656) (ht : TxtW w) : Calls Tryz.prog 59 #[strV l] w (NumPost (atV l) (nuB l) w) := by
  have X := Own.start w
  have HT := hide ht
  have A1 := hide (fun W hW => atoiL l W hl hW)
  have bV := atV_bd l
  have I1 := hide (fun W hW => itoaL (atV l) W bV.1 bV.2 hW)
  have E : Hid (nuB l = (atB l && decide (l.length ≤ 9) && decide (Lib.itoa (atV l) = l) && decide (0 ≤ atV l))) := hide rfl
  clear ht
  generalize nuB l = nb at *
  generalize atB l = b1 at *
  generalize hv : atV l = v at *
  generalize Lib.itoa v = tv at *
  clear hv
  cases b1
  · have E2 : Hid (nb = false) := hide (by rw [E.out]; rfl)
    clear E
    go_enter Tryz.func59, Tryz.ntmps59
    go_wp2_with fail
    refine (A1.out _ HT.out).mono ?_
    rintro e w1 ⟨⟨ev1, rfl, h1, h2⟩, hb⟩
    obtain ⟨te, pe1, rfl⟩ := h2 rfl
    replace X := X.to hb
    clear h1 h2 hb
    go_wp2
    exact bodyPost_ret (v := .tuple #[.int .i64 v, .bool false]) (by simp [results, Tryz.results59, go_sem]) rfl (NumPost.mk2 X.1 E2.out)
  · by_cases hl9 : l.length ≤ 9
    · by_cases hq : tv = l
      · by_cases h0 : 0 ≤ v
        · have E2 : Hid (nb = true) := hide (by rw [E.out]; simp [hl9, hq, h0])
          have q1 : (tv == l) = true := by simp [hq]
          clear E hq
          go_enter Tryz.func59, Tryz.ntmps59
          go_wp2_with fail
          refine (A1.out _ HT.out).mono ?_
          rintro e w1 ⟨⟨ev1, rfl, h1, h2⟩, hb⟩
          obtain rfl := h1 rfl
          replace X := X.to hb
          clear h1 h2 hb
          go_wp2_with fail
          refine (I1.out _ (HT.out.below X.1)).mono ?_
          rintro e w2 ⟨rfl, hb⟩
          replace X := X.to hb
          clear hb
          go_wp2
          exact bodyPost_ret (v := .tuple #[.int .i64 v, .bool true]) (by simp [results, Tryz.results59, go_sem]) rfl (NumPost.mk2 X.1 E2.out)
        · have E2 : Hid (nb = false) := hide (by rw [E.out]; simp [h0])
          have q1 : (tv == l) = true := by simp [hq]
          have q2 : decide (0 ≤ v) = false := decide_eq_false h0
          clear E hq
          go_enter Tryz.func59, Tryz.ntmps59
          go_wp2_with fail
          refine (A1.out _ HT.out).mono ?_
          rintro e w1 ⟨⟨ev1, rfl, h1, h2⟩, hb⟩
          obtain rfl := h1 rfl
          replace X := X.to hb
          clear h1 h2 hb
          go_wp2_with fail
          refine (I1.out _ (HT.out.below X.1)).mono ?_
          rintro e w2 ⟨rfl, hb⟩
          replace X := X.to hb
          clear hb
          go_wp2
          exact bodyPost_ret (v := .tuple #[.int .i64 v, .bool false]) (by simp [results, Tryz.results59, go_sem]) rfl (NumPost.mk2 X.1 E2.out)
      · have E2 : Hid (nb = false) := hide (by rw [E.out]; simp [hq])
        have q1 : (tv == l) = false := by simp [hq]
        clear E hq
        go_enter Tryz.func59, Tryz.ntmps59
        go_wp2_with fail
        refine (A1.out _ HT.out).mono ?_
        rintro e w1 ⟨⟨ev1, rfl, h1, h2⟩, hb⟩
        obtain rfl := h1 rfl
        replace X := X.to hb
        clear h1 h2 hb
        go_wp2_with fail
        refine (I1.out _ (HT.out.below X.1)).mono ?_
        rintro e w2 ⟨rfl, hb⟩
        replace X := X.to hb
        clear hb
        go_wp2
        exact bodyPost_ret (v := .tuple #[.int .i64 v, .bool false]) (by simp [results, Tryz.results59, go_sem]) rfl (NumPost.mk2 X.1 E2.out)
    · have E2 : Hid (nb = false) := hide (by rw [E.out]; simp [hl9])
      have q2 : decide ((l.length : Int) ≤ 9) = false := decide_eq_false (by omega)
      clear E
      go_enter Tryz.func59, Tryz.ntmps59
      go_wp2_with fail
      refine (A1.out _ HT.out).mono ?_
      rintro e w1 ⟨⟨ev1, rfl, h1, h2⟩, hb⟩
      obtain rfl := h1 rfl
      replace X := X.to hb
      clear h1 h2 hb
      go_wp2
      exact bodyPost_ret (v := .tuple #[.int .i64 v, .bool false]) (by simp [results, Tryz.results59, go_sem]) rfl (NumPost.mk2 X.1 E2.out)
/-- what the reference's Number returns -/
def rnV (l : List UInt8) : Int := if rnB l then (valL 0 l : Nat) else 0
theorem rn_len {l : List UInt8} (h : ¬ (1 ≤ l.length ∧ l.length ≤ 9)) : rnB l = false ∧ rnV l = 0 := by
  have : rnB l = false := by
    rcases Bool.eq_false_or_eq_true (rnB l) with h1 | h1
    · have := rn_facts h1
      have h2 := List.length_pos_iff.2 this.2.1
      omega
    · exact h1
  exact ⟨this, by unfold rnV; rw [if_neg (by rw [this]; simp)]⟩
theorem rn_zero {l : List UInt8} (h : 1 < l.length) (h0 : l.head? = some 48) : rnB l = false ∧ rnV l = 0 := by
  have : rnB l = false := by
    rcases Bool.eq_false_or_eq_true (rnB l) with h1 | h1
    · exact absurd (by rw [h0]; rfl) ((rn_facts h1).2.2.2 h)
    · exact h1
  exact ⟨this, by unfold rnV; rw [if_neg (by rw [this]; simp)]⟩
theorem rn_bad {l : List UInt8} {c : UInt8} (h : c ∈ l) (h0 : ¬ isDg c) : rnB l = false ∧ rnV l = 0 := by
  have : rnB l = false := by
    rcases Bool.eq_false_or_eq_true (rnB l) with h1 | h1
    · exact absurd ((rn_facts h1).1 c h) h0
    · exact h1
  exact ⟨this, by unfold rnV; rw [if_neg (by rw [this]; simp)]⟩
theorem rn_good {l : List UInt8} (h1 : 1 ≤ l.length) (h9 : l.length ≤ 9) (hz : 1 < l.length → l.head? ≠ some 48) (hd : ∀ c ∈ l, isDg c) : rnB l = true ∧ rnV l = (valL 0 l : Nat) := by
  have : rnB l = true := by
    unfold rnB
    simp only [Bool.and_eq_true, decide_eq_true_eq, Bool.not_eq_true', Bool.and_eq_false_iff, decide_eq_false_iff_not]
    refine ⟨⟨⟨h1, h9⟩, ?_⟩, all_dg.2 hd⟩
    by_cases h : 1 < l.length
    · exact .inr (hz h)
    · exact .inl h
  exact ⟨this, by unfold rnV; rw [if_pos this]⟩
theorem u8_digit {d : Nat} (h1 : 48 ≤ d) (h2 : d ≤ 57) : IntKind.u8.wrap ((d : Int) - 48) = ((d - 48 : Nat) : Int) ∧ IntKind.i64.wrap (((d - 48 : Nat) : Int)) = ((d - 48 : Nat) : Int) := by
  constructor
  · simp [IntKind.wrap, IntKind.signed, IntKind.bits]; omega
  · exact IntWalk.i64_in _ (by omega)
theorem val_take {l : List UInt8} {k : Nat} (h : k < l.length) : valL 0 (l.take (k + 1)) = valL 0 (l.take k) * 10 + (l[k].toNat - 48) := by
  rw [List.take_succ_eq_append_getElem h, valL_append]
  rfl
end Go.Proofs.YtaaadejamjbcbaaGreatDoor
