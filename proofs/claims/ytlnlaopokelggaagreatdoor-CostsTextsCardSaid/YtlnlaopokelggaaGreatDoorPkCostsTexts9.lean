/- Parts of one proof, joined: The functions that Check hands to slices.ContainsFunc, and these calls: what each returns; nothing that was there is turned. The function that Check hands to slices.ContainsFunc at corners, and this call: what each returns; nothing is turned. Rows of a block written cell by cell. What Check holds on its way: rows of findings, the spots that are not right, maps, and triangles; what each step keeps. -/
import Derived.Test.YtlnlaopokelggaaGreatDoorPkCostsTexts8
import Derived.Test.YtlnlaopokelggaaGreatDoorPkCostsTexts3
import Derived.Shelf.Abstract
import Derived.Deep.AppendLies
namespace Go.Proofs.YtlnlaopokelggaaGreatDoor
open Go Go.RowKit

set_option maxHeartbeats 2000000 in
theorem chk2_any (t o : Tri) (bt : Nat) (w : World) (ht : t.in) (ho : o.in) (hB : Blk w bt 147 t.cells.toArray) :
    Calls Tryz.prog 95 #[.agg o.cells.toArray, .pointer (some ⟨bt, 0, none⟩)] w (RetW (.bool (ovlB t o)) w) := by
  have S1 := hide (fun W => mssep_any t o W ht ho)
  have S2 := hide (fun W => mssep_any o t W ho ht)
  unfold RetW at S1 S2
  have E : Hid (ovlB t o = (!sepB t o && !sepB o t)) := hide rfl
  have X := (show Own w w [(bt, 147, #[.int .i64 t.p.x, .int .i64 t.p.y, .int .i64 t.q.x, .int .i64 t.q.y, .int .i64 t.r.x, .int .i64 t.r.y])] from ⟨Below.refl _ _, fun x hx => by rw [List.mem_singleton.1 hx]; exact hB⟩).alloc #[.int .i64 o.p.x, .int .i64 o.p.y, .int .i64 o.q.x, .int .i64 o.q.y, .int .i64 o.r.x, .int .i64 o.r.y] 147
  have n0 := hB.lt
  have n1 : ¬ bt = w.heap.size := by omega
  have hr0 := hB.rules
  generalize sepB t o = b1 at *
  generalize sepB o t = b2 at *
  have hr := X.r2
  cases b1 <;> cases b2
  all_goals
    go_enter Tryz.func95, Tryz.ntmps95
    go_wp2_with fail
    refine (S1.out _).mono ?_
    rintro e w1 ⟨rfl, hb⟩
    replace X := X.to hb
    clear hr hb hr0
    have hr := X.r2
    first
      | (go_wp2_with fail
         refine (S2.out _).mono ?_
         rintro e w2 ⟨rfl, hb⟩
         replace X := X.to hb
         clear hr hb)
      | skip
    go_wp2
    go_ret
    exact ⟨ret_bool (by rw [E.out]; rfl), X.1⟩
/-- a slice of triangles that reads as a list -/
def TriSl (w : World) (A : Option Addr) (l : List Tri) : Prop :=
  l.length ≤ 9223372036854775807 ∧ (0 < l.length → ∃ b off, A = some ⟨b, off, none⟩ ∧ b < w.heap.size ∧ ∀ i (h : i < l.length), w.cell? ⟨b, off + i * 6, none⟩ = some (.int .i64 l[i].p.x) ∧ w.cell? ⟨b, off + i * 6 + 1, none⟩ = some (.int .i64 l[i].p.y) ∧
    w.cell? ⟨b, off + i * 6 + 2, none⟩ = some (.int .i64 l[i].q.x) ∧ w.cell? ⟨b, off + i * 6 + 3, none⟩ = some (.int .i64 l[i].q.y) ∧ w.cell? ⟨b, off + i * 6 + 4, none⟩ = some (.int .i64 l[i].r.x) ∧ w.cell? ⟨b, off + i * 6 + 5, none⟩ = some (.int .i64 l[i].r.y))
theorem TriSl.below {w w' : World} {A : Option Addr} {l : List Tri} (h : TriSl w A l) (hb : Below w.heap.size w w') : TriSl w' A l :=
  ⟨h.1, fun hl => by
    obtain ⟨b, off, e, hlt, hat⟩ := h.2 hl
    have k := fun (i : Nat) => hb.cell (p := ⟨b, i, none⟩) hlt
    refine ⟨b, off, e, Nat.lt_of_lt_of_le hlt hb.size, fun i hi => ?_⟩
    obtain ⟨a0, a1, a2, a3, a4, a5⟩ := hat i hi
    exact ⟨(k _).trans a0, (k _).trans a1, (k _).trans a2, (k _).trans a3, (k _).trans a4, (k _).trans a5⟩⟩
def idxT (p : Tri → Bool) (l : List Tri) : Int := match l.findIdx? p with | some i => (i : Int) | none => -1
theorem idxT_no {p : Tri → Bool} {l : List Tri} (h : ∀ i (hi : i < l.length), p l[i] = false) : idxT p l = -1 := by
  have : l.findIdx? p = none := by
    rw [List.findIdx?_eq_none_iff]
    intro x hx
    obtain ⟨i, hi, rfl⟩ := List.mem_iff_getElem.1 hx
    exact h i hi
  simp [idxT, this]
theorem idxT_yes {p : Tri → Bool} {l : List Tri} {k : Nat} (hk : k < l.length) (h : ∀ i (hi : i < l.length), i < k → p l[i] = false) (hy : p l[k] = true) : idxT p l = k := by
  have : l.findIdx? p = some k := by
    rw [List.findIdx?_eq_some_iff_getElem]
    exact ⟨hk, hy, fun j hj => by rw [h j (by omega) hj]; simp⟩
  simp [idxT, this]
theorem any_idxT (p : Tri → Bool) (l : List Tri) : l.any p = decide (0 ≤ idxT p l) := by
  unfold idxT
  cases h : l.findIdx? p with
  | none =>
    rw [List.findIdx?_eq_none_iff] at h
    rw [Bool.eq_iff_iff]
    simp only [List.any_eq_true, decide_eq_true_eq]
    constructor
    · rintro ⟨x, hx, hp⟩
      rw [h x hx] at hp
      cases hp
    · intro h'
      omega
  | some i =>
    rw [List.findIdx?_eq_some_iff_getElem] at h
    obtain ⟨hi, hp, _⟩ := h
    rw [Bool.eq_iff_iff]
    simp only [List.any_eq_true, decide_eq_true_eq]
    exact ⟨fun _ => by omega, fun _ => ⟨l[i], List.getElem_mem hi, hp⟩⟩
set_option maxRecDepth 100000 in
set_option maxHeartbeats 2000000 in
theorem idxT_any (t : Tri) (l : List Tri) (A : Option Addr) (cap bt : Nat) (w : World) (hl : TriSl w A l) (ht : t.in) (hi : ∀ o ∈ l, Tri.in o) (hB : Blk w bt 147 t.cells.toArray) :
    Calls Tryz.prog 114 #[.slice A l.length cap, .func (.func 95) #[] #[.pointer (some ⟨bt, 0, none⟩)]] w (RetW (.int .i64 (idxT (ovlB t) l)) w) := by
  have hlen : l.length ≤ 9223372036854775807 := hl.1
  have H := hide hl
  have HB := hide hB
  have CK := hide (fun W o (ho : o ∈ l) h => chk2_any t o bt W ht (hi o ho) h)
  unfold RetW at CK
  have nb := hB.lt
  clear hl hB ht hi
  go_enter Tryz.func114, Tryz.ntmps114
  go_wp2
  go_loopw [8] (fun v8 wr => ∃ k : Nat, k ≤ l.length ∧ v8 = .int .i64 k ∧ Hid (Below w.heap.size w wr) ∧ Hid (∀ i (hi : i < l.length), i < k → ovlB t l[i] = false)) (fun v8 _ => l.length - (intOf v8).toNat)
  case atStart => exact ⟨0, Nat.zero_le _, rfl, hide (Below.refl _ _), hide (fun _ _ h => by omega)⟩
  case round =>
    obtain ⟨k, hk, rfl, HW, hno⟩ := hrel
    by_cases hlt : k < l.length
    · obtain ⟨b, off, rfl, hbl, hat⟩ := (H.out.below HW.out).2 (by omega)
      obtain ⟨c0, c1, c2, c3, c4, c5⟩ := hat k hlt
      have HBk := hide (HB.out.below HW.out nb)
      have CKk := hide (fun W h => CK.out W l[k] (List.getElem_mem hlt) h)
      clear hat
      by_cases hs : ovlB t l[k] = true
      · have E := hide (idxT_yes (p := ovlB t) hlt (fun i hi hik => hno.out i hi hik) hs)
        rw [hs] at CKk
        clear hs
        generalize l[k] = o at *
        go_wp2_with fail
        refine (CKk.out _ HBk.out).mono ?_
        rintro e w' ⟨rfl, hb⟩
        go_wp2
        go_ret
        exact ⟨ret_int E.out.symm, below_via HW.out HW.out.size hb⟩
      · have hs : ovlB t l[k] = false := by simpa using hs
        have hno2 := hide (fun i (hi : i < l.length) (hik : i < k + 1) => (show ovlB t l[i] = false by
          by_cases e : i = k
          · subst e; exact hs
          · exact hno.out i hi (by omega)))
        rw [hs] at CKk
        clear hs
        generalize l[k] = o at *
        go_wp2_with fail
        refine (CKk.out _ HBk.out).mono ?_
        rintro e w' ⟨rfl, hb⟩
        have HW2 := hide (below_via HW.out HW.out.size hb)
        clear hb
        go_wp2
        go_roundw
        case rel => exact ⟨k + 1, by omega, by go_num, HW2, hno2⟩
        case measure => simp [intOf]; omega
    · go_wp2
      go_ret
      exact ⟨ret_int (idxT_no fun i hi => hno.out i hi (by omega)).symm, HW.out⟩
set_option maxHeartbeats 1000000 in
theorem contT_any (t : Tri) (l : List Tri) (A : Option Addr) (cap bt : Nat) (w : World) (hl : TriSl w A l) (ht : t.in) (hi : ∀ o ∈ l, Tri.in o) (hB : Blk w bt 147 t.cells.toArray) :
    Calls Tryz.prog 94 #[.slice A l.length cap, .func (.func 95) #[] #[.pointer (some ⟨bt, 0, none⟩)]] w (RetW (.bool (l.any (ovlB t))) w) := by
  have C := hide (idxT_any t l A cap bt w hl ht hi hB)
  have E := hide (any_idxT (ovlB t) l)
  generalize idxT (ovlB t) l = i at *
  unfold RetW at C
  clear hl ht hi hB
  go_enter Tryz.func94, Tryz.ntmps94
  go_wp2_with fail
  refine C.out.mono ?_
  rintro e w' ⟨rfl, hb⟩
  go_wp2
  go_ret
  exact ⟨ret_bool E.out.symm, hb⟩
end Go.Proofs.YtlnlaopokelggaaGreatDoor

namespace Go.Proofs.YtlnlaopokelggaaGreatDoor
open Go Go.RowKit

set_option maxHeartbeats 1000000 in
theorem idxfI2_any (f : Nat) (p : Int → Bool) (p1 p2 : Value) (w : World) (hf : ∀ d : Int, Calls Tryz.prog f #[.int .i64 d, p1, p2] w fun e w' => e = .returned (.bool (p d)) ∧ w = w') (hc : ∀ (d : Int) (w : World), (callFunc f #[.int .i64 d, p1, p2]).run Tryz.prog w = .ok (.enter f #[.int .i64 d, p1, p2]) w) (l : List Int) (A : Option Addr) (cap : Nat) (hl : IntSl w A l) :
    Calls Tryz.prog 113 #[.slice A l.length cap, .func (.func f) #[] #[p1, p2]] w fun e w' => e = .returned (.int .i64 (idxP p l)) ∧ w = w' := by
  have hlen : l.length ≤ 9223372036854775807 := by have := hl.1.1; omega
  have H := hide hl
  have F := hide hf
  clear hl hf
  go_enter Tryz.func113, Tryz.ntmps113
  go_wp2
  go_loop [8] (fun v8 => ∃ k : Nat, k ≤ l.length ∧ v8 = .int .i64 k ∧ Hid (∀ i (hi : i < l.length), i < k → p l[i] = false)) (fun v8 => l.length - (intOf v8).toNat)
  case atStart => exact ⟨0, Nat.zero_le _, rfl, hide (fun _ _ h => by omega)⟩
  case round =>
    obtain ⟨k, hk, rfl, hno⟩ := hrel
    by_cases hlt : k < l.length
    · obtain ⟨b, off, rfl, hbl, hat⟩ := H.out.2 (by omega)
      have c0 := hat k hlt
      clear hat
      rcases Bool.eq_false_or_eq_true (p l[k]) with hs | hs
      · go_wp2_with fail
        refine (F.out l[k]).mono ?_
        rintro e w' ⟨rfl, rfl⟩
        go_wp2
        go_ret
        exact ⟨ret_int (idxP_yes hlt (fun i hi hik => hno.out i hi hik) hs).symm, rfl⟩
      · go_wp2_with fail
        refine (F.out l[k]).mono ?_
        rintro e w' ⟨rfl, rfl⟩
        go_wp2
        go_round
        case rel =>
          refine ⟨k + 1, by omega, by go_num, hide fun i hi hik => ?_⟩
          by_cases e : i = k
          · subst e; exact hs
          · exact hno.out i hi (by omega)
        case measure => simp [intOf]; omega
    · go_wp2
      go_ret
      exact ⟨ret_int (idxP_no fun i hi => hno.out i hi (by omega)).symm, rfl⟩
set_option maxHeartbeats 1000000 in
theorem contI2_any (f : Nat) (p : Int → Bool) (p1 p2 : Value) (w : World) (hf : ∀ d : Int, Calls Tryz.prog f #[.int .i64 d, p1, p2] w fun e w' => e = .returned (.bool (p d)) ∧ w = w') (hc : ∀ (d : Int) (w : World), (callFunc f #[.int .i64 d, p1, p2]).run Tryz.prog w = .ok (.enter f #[.int .i64 d, p1, p2]) w) (l : List Int) (A : Option Addr) (cap : Nat) (hl : IntSl w A l) :
    Calls Tryz.prog 89 #[.slice A l.length cap, .func (.func f) #[] #[p1, p2]] w fun e w' => e = .returned (.bool (l.any p)) ∧ w = w' := by
  have F := hide hf
  have H := hide (any_idx p l)
  clear hf
  have HL := hide hl
  clear hl
  go_enter Tryz.func89, Tryz.ntmps89
  go_wp2_with fail
  refine (idxfI2_any f p p1 p2 _ F.out hc l A cap HL.out).mono ?_
  rintro e w' ⟨rfl, rfl⟩
  go_wp2
  go_ret
  exact ⟨ret_bool H.out.symm, rfl⟩
/-- a slice of bools that says which spots are not right -/
def FarSl (w : World) (A : Option Addr) (l : List Spt) : Prop := 0 < l.length → ∃ b off, A = some ⟨b, off, none⟩ ∧ b < w.heap.size ∧ ∀ i (h : i < l.length), w.cell? ⟨b, off + i, none⟩ = some (.bool (!okS l[i]))
theorem FarSl.below {w w' : World} {A : Option Addr} {l : List Spt} (h : FarSl w A l) (hb : Below w.heap.size w w') : FarSl w' A l := fun hl => by
  obtain ⟨b, off, e, hlt, hat⟩ := h hl
  exact ⟨b, off, e, Nat.lt_of_lt_of_le hlt hb.size, fun i hi => (hb.cell (p := ⟨b, off + i, none⟩) hlt).trans (hat i hi)⟩
set_option maxHeartbeats 2000000 in
theorem chk1_any (m : Msh) (a : MshA) (k : Int) (bm bf : Nat) (F : Option Addr) (fc : Nat) (w : World) (hlen : m.ss.length ≤ 9223372036854775807) (hM : Blk w bm 52 (m.cells a)) (hF : Blk w bf 137 #[.slice F m.ss.length fc]) (hs : FarSl w F m.ss) :
    Calls Tryz.prog 90 #[.int .i64 k, .pointer (some ⟨bm, 0, none⟩), .pointer (some ⟨bf, 0, none⟩)] w fun e w' => e = .returned (.bool (!cnB m.ss k)) ∧ w = w' := by
  have E : Hid (cnB m.ss k = (decide (0 ≤ k) && decide (k < m.ss.length) && okS (spA m.ss k))) := hide rfl
  have r1 := hM.rules
  have r2 := hF.rules
  by_cases h0 : 0 ≤ k
  case neg =>
    have d0 : decide (k < 0) = true := decide_eq_true (by omega)
    go_enter Tryz.func90, Tryz.ntmps90
    go_wp2
    go_ret
    exact ⟨ret_bool (by rw [E.out]; simp [h0]), rfl⟩
  obtain ⟨k, rfl⟩ : ∃ n : Nat, k = (n : Int) := ⟨k.toNat, by omega⟩
  have d0 : decide ((k : Int) < 0) = false := decide_eq_false (by omega)
  by_cases h1 : k < m.ss.length
  case neg =>
    go_enter Tryz.func90, Tryz.ntmps90
    go_wp2
    go_ret
    exact ⟨ret_bool (by rw [E.out]; simp; omega), rfl⟩
  obtain ⟨b, off, rfl, hbl, hat⟩ := hs (by omega)
  have c0 := hat k h1
  have es : spA m.ss (k : Int) = m.ss[k] := by simp [spA, h1]
  rw [es] at E
  have E2 : Hid (cnB m.ss (k : Int) = okS m.ss[k]) := hide (by rw [E.out]; simp [h1])
  clear E es hat
  generalize okS m.ss[k] = ok at *
  go_enter Tryz.func90, Tryz.ntmps90
  go_wp2
  go_ret
  exact ⟨ret_bool (by rw [E2.out]; simp; omega), rfl⟩
theorem cont1_any (m : Msh) (a : MshA) (l : List Int) (A : Option Addr) (cap bm bf : Nat) (F : Option Addr) (fc : Nat) (w : World) (hl : IntSl w A l) (hlen : m.ss.length ≤ 9223372036854775807) (hM : Blk w bm 52 (m.cells a)) (hF : Blk w bf 137 #[.slice F m.ss.length fc]) (hs : FarSl w F m.ss) :
    Calls Tryz.prog 89 #[.slice A l.length cap, .func (.func 90) #[] #[.pointer (some ⟨bm, 0, none⟩), .pointer (some ⟨bf, 0, none⟩)]] w fun e w' => e = .returned (.bool (l.any fun k => !cnB m.ss k)) ∧ w = w' :=
  contI2_any 90 (fun k => !cnB m.ss k) _ _ w (fun d => chk1_any m a d bm bf F fc w hlen hM hF hs) (fun d w => enters_of Tryz.func90 (by kernel_rfl) rfl _ w) l A cap hl
end Go.Proofs.YtlnlaopokelggaaGreatDoor

namespace Go.Proofs.YtlnlaopokelggaaGreatDoor
open Go.RowKit

/-- a row of cells, place by place -/
def mkRow (n : Nat) (f : Nat → Value) : Array Value := ((List.range n).map f).toArray
theorem mkRow_size (n : Nat) (f : Nat → Value) : (mkRow n f).size = n := by simp [mkRow]
theorem mkRow_at (n : Nat) (f : Nat → Value) {i : Nat} (h : i < n) : (mkRow n f)[i]? = some (f i) := by simp [mkRow, h]
theorem mkRow_set (n : Nat) (f : Nat → Value) (i : Nat) (v : Value) : (mkRow n f).setIfInBounds i v = mkRow n (fun j => if j = i then v else f j) := by
  apply Array.ext
  · simp [mkRow]
  · intro j h1 h2
    simp only [mkRow, Array.size_setIfInBounds, List.size_toArray, List.length_map, List.length_range] at h1
    by_cases e : j = i
    · subst e; simp [mkRow]
    · rw [Array.getElem_setIfInBounds_ne (hj := by simpa [mkRow] using h1) (h := fun h => e h.symm)]
      simp [mkRow, e]
theorem mkRow_congr {n : Nat} {f g : Nat → Value} (h : ∀ i, i < n → f i = g i) : mkRow n f = mkRow n g := by
  unfold mkRow
  congr 1
  exact List.map_congr_left (fun i hi => h i (List.mem_range.1 hi))
theorem mkRow_made (n : Nat) (z : Value) : madeCells #[z] n = mkRow n (fun _ => z) := by
  apply Array.ext'
  rw [toList_madeCells_one]
  simp [mkRow, List.map_const']
/-- a block of the call's own that holds integers, read as a slice -/
theorem IntSl.of_blk {w : World} {g n : Nat} {t : TypeId} {f : Nat → Int} (h : Blk w g t (mkRow n (fun i => .int .i64 (f i)))) (hn : n ≤ 9223372036854775807) (hr : ∀ i, i < n → -9223372036854775808 ≤ f i ∧ f i ≤ 9223372036854775807) : IntSl w (some ⟨g, 0, none⟩) ((List.range n).map f) := by
  refine ⟨⟨by simpa using hn, fun i hi => ?_⟩, fun _ => ⟨g, 0, rfl, h.lt, fun i hi => ?_⟩⟩
  · simp only [List.length_map, List.length_range] at hi
    simpa using hr i hi
  · simp only [List.length_map, List.length_range] at hi
    rw [Nat.zero_add, h.cell, mkRow_at n _ hi]
    simp
end Go.Proofs.YtlnlaopokelggaaGreatDoor

namespace Go.Proofs.YtlnlaopokelggaaGreatDoor
open Go Go.RowKit

def upF {α : Type} (f : Nat → α) (k : Nat) (v : α) : Nat → α := fun j => if j = k then v else f j
def cF (f : Nat → Value) : Array Value := #[f 0, f 1, f 2, f 3, f 4, f 5, f 6]
theorem cF_set (f : Nat → Value) {k : Nat} (hk : k < 7) (v : Value) : (cF f).setIfInBounds k v = cF (upF f k v) := by
  obtain rfl | rfl | rfl | rfl | rfl | rfl | rfl : k = 0 ∨ k = 1 ∨ k = 2 ∨ k = 3 ∨ k = 4 ∨ k = 5 ∨ k = 6 := by omega
  all_goals rfl
abbrev natV (l : List Nat) : List Value := l.map fun i : Nat => Value.int .i64 (i : Int)
/-- the rows of findings: each in a block of its own -/
structure Six (W : World) (B : Nat) (f : Nat → Value) (L : Nat → List Nat) : Prop where
  row : ∀ k, k < 7 → W.ownsRow B 3 1 (f k) (L k).length (natV (L k))
  ne : ∀ j k, j < 7 → k < 7 → j ≠ k → (f j).ownBlock = none ∨ (f j).ownBlock ≠ (f k).ownBlock
section
variable {W W' : World} {B : Nat} {f : Nat → Value} {L : Nat → List Nat}
theorem Six.kept {row : Option Nat} (h : Six W B f L) (hg : W.grownBy W' row) (hn : ∀ k, k < 7 → (f k).ownBlock = none ∨ (f k).ownBlock ≠ row) : Six W' B f L :=
  ⟨fun k hk => (h.row k hk).kept hg (hn k hk), h.ne⟩
theorem Six.to (h : Six W B f L) (hb : Below W.heap.size W W') : Six W' B f L := h.kept (grown_of_below hb none) (fun k _ => by cases (f k).ownBlock <;> simp)
theorem Six.set {g : Nat} {t : TypeId} {cs : Array Value} (h : Six W B f L) (hB : Blk W g t cs) (hne : 3 ≠ t) (i : Nat) (u : Value) : Six (W.setCell ⟨g, i, none⟩ u) B f L :=
  ⟨fun k hk => row_set (h.row k hk) hB hne i u, h.ne⟩
theorem Six.app {k x g c : Nat} (h : Six W B f L) (hk : k < 7) (hown : W'.ownsRow B 3 1 (.slice (some ⟨g, 0, none⟩) ((L k).length + 1) c) ((L k).length + 1) (natV (L k) ++ [.int .i64 (x : Int)]))
    (hg : W.grownBy W' (f k).ownBlock) (hv : (f k).ownBlock = some g ∨ g = W.heap.size) : Six W' B (upF f k (.slice (some ⟨g, 0, none⟩) ((L k).length + 1) c)) (upF L k (L k ++ [x])) := by
  have lt : ∀ j, j < 7 → ∀ b, (f j).ownBlock = some b → b < W.heap.size := fun j hj b e => ((h.row j hj).lt b e).2
  have nk : ∀ j, j < 7 → j ≠ k → (f j).ownBlock = none ∨ (f j).ownBlock ≠ some g := fun j hj hjk => by
    rcases hv with hv | hv
    · rw [← hv]; exact h.ne j k hj hk hjk
    · cases e : (f j).ownBlock with
      | none => exact .inl rfl
      | some b =>
        have := lt j hj b e
        exact .inr (by intro e'; injection e' with e'; omega)
  refine ⟨fun j hj => ?_, fun i j hi hj hij => ?_⟩
  · unfold upF
    by_cases e : j = k
    · subst e
      simp only [if_true, List.length_append, List.length_singleton]
      simpa [natV] using hown
    · simp only [if_neg e]
      exact (h.row j hj).kept hg (h.ne j k hj hk e)
  · unfold upF
    by_cases e1 : i = k
    · subst e1
      simp only [if_true, if_neg (Ne.symm hij)]
      rcases nk j hj (Ne.symm hij) with e | e
      · exact .inr (by rw [e]; simp [Value.ownBlock])
      · exact .inr (fun e' => e e'.symm)
    · by_cases e2 : j = k
      · subst e2
        simp only [if_true, if_neg e1]
        exact nk i hi e1
      · simp only [if_neg e1, if_neg e2]
        exact h.ne i j hi hj hij
theorem Six.nil (W : World) (B : Nat) : Six W B (fun _ => .slice none 0 0) (fun _ => []) := ⟨fun _ _ => World.ownsRow_nil _ _ _ _, fun _ _ _ _ _ => .inl rfl⟩
theorem Six.notMap (h : Six W B f L) {b : Nat} {es : Array MapEntry} {c : Nat} (hb : W.heap[b]? = some (.map es c)) : ∀ k, k < 7 → (f k).ownBlock = none ∨ (f k).ownBlock ≠ some b := fun k hk => by
  rcases (h.row k hk).2 with ⟨e, _⟩ | ⟨g, cap, cur, e, _, hg, _⟩
  · exact .inl (by rw [e]; rfl)
  · refine .inr fun e2 => ?_
    rw [e] at e2
    obtain rfl : g = b := by simpa [Value.ownBlock] using e2
    rw [hg] at hb; cases hb
end
theorem MapB.blk {W : World} {k b n : Nat} {D : DataW Unit} (h : MapB W k b n D) : ∃ es c, W.heap[b]? = some (.map es c) := by
  obtain ⟨es, c, hb, _⟩ := h
  exact ⟨es, c, hb⟩
theorem MapB.to {W W' : World} {k b n : Nat} {D : DataW Unit} (h : MapB W k b n D) (hb : Below W.heap.size W W') : MapB W' k b n D := World.ownsMap.kept h (grown_of_below hb none) (by simp)
/-- a row's growth keeps a map -/
theorem MapB.row {W W' : World} {k b n : Nat} {D : DataW Unit} (h : MapB W k b n D) {B e sz m : Nat} {v : Value} {xs : List Value} (hr : W.ownsRow B e sz v m xs) (hg : W.grownBy W' v.ownBlock) : MapB W' k b n D := by
  obtain ⟨es, c, hb⟩ := h.blk
  refine World.ownsMap.kept h hg (fun e => ?_)
  rcases hr.2 with ⟨rfl, _⟩ | ⟨g, cap, cur, rfl, _, hg', _⟩
  · cases e
  · obtain rfl : b = g := by simpa [Value.ownBlock] using e
    rw [hg'] at hb; cases hb
/-- a map's growth keeps blocks, rows, and other maps -/
theorem Own.gmap {w W W' : World} {L : List (Nat × TypeId × Array Value)} {k b n : Nat} {D : DataW Unit} (h : Own w W L) (hm : MapB W k b n D) (hb : w.heap.size ≤ b) (hg : W.grownBy W' (some b)) : Own w W' L := by
  obtain ⟨es, c, he⟩ := hm.blk
  refine ⟨h.1.grown hg h.1.size (fun j hj => by injection hj with hj; omega), fun x hx => (h.2 x hx).grown hg (fun e => ?_)⟩
  injection e with e
  have := h.2 x hx
  unfold Blk at this
  rw [e, he] at this
  cases this
theorem row_gmap {W W' : World} {k b n : Nat} {D : DataW Unit} (hm : MapB W k b n D) (hg : W.grownBy W' (some b)) {B e sz m : Nat} {v : Value} {xs : List Value} (hr : W.ownsRow B e sz v m xs) : W'.ownsRow B e sz v m xs := by
  obtain ⟨es, c, he⟩ := hm.blk
  refine hr.kept hg ?_
  rcases hr.2 with ⟨rfl, _⟩ | ⟨g, cap, cur, rfl, _, hg', _⟩
  · exact .inl rfl
  · refine .inr fun e2 => ?_
    obtain rfl : g = b := by simpa [Value.ownBlock] using e2
    rw [hg'] at he; cases he
theorem Six.gmap {W W' : World} {B : Nat} {f : Nat → Value} {L : Nat → List Nat} {k b n : Nat} {D : DataW Unit} (h : Six W B f L) (hm : MapB W k b n D) (hg : W.grownBy W' (some b)) : Six W' B f L :=
  ⟨fun j hj => row_gmap hm hg (h.row j hj), h.ne⟩
theorem MapB.gmap {W W' : World} {k b n b2 : Nat} {D : DataW Unit} (h : MapB W k b n D) (hne : b ≠ b2) (hg : W.grownBy W' (some b2)) : MapB W' k b n D := World.ownsMap.kept h hg (by simpa using hne)
/-- the bools of the spots so far -/
def farC (l : List Spt) (k i : Nat) : Value := .bool (if i < k then !okS (spA l i) else false)
def farR (l : List Spt) (k : Nat) : Array Value := mkRow l.length (farC l k)
end Go.Proofs.YtlnlaopokelggaaGreatDoor
