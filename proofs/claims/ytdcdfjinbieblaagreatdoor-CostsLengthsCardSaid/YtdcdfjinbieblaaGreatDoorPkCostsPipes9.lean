/- Parts of one proof, joined: What Check holds on its way: rows of findings, the spots that are not right, maps, and triangles; what each step keeps. Decimal numerals: what Itoa prints is read again by Atoi and by digit loops; where a separator stands; plain facts. Texts: values of lists of bytes; the table of powers of ten is kept. -/
import Derived.Test.YtdcdfjinbieblaaGreatDoorPkCostsPipes8
import Derived.Deep.AppendLies
import Derived.Test.YtdcdfjinbieblaaGreatDoorPkCostsPipes1
import Derived.Lib.AtoiAllCases
import Derived.Lib.ItoaNum
import Derived.Lib.ItoaLen
import Derived.Lib.IndexMore
import Derived.Test.YtdcdfjinbieblaaGreatDoorPkCostsPipes2
import Derived.Test.YtdcdfjinbieblaaGreatDoorShelf3
import Derived.Lib.AppendIntMem
import Derived.Shelf.Vars
namespace Go.Proofs.YtdcdfjinbieblaaGreatDoor
open Go Go.RowKit

def upF {α : Type} (f : Nat → α) (k : Nat) (v : α) : Nat → α := fun j => if j = k then v else f j
def cF (f : Nat → Value) : Array Value := #[f 0, f 1, f 2, f 3, f 4, f 5, f 6]
theorem cF_set (f : Nat → Value) {k : Nat} (hk : k < 7) (v : Value) : (cF f).setIfInBounds k v = cF (upF f k v) := by
  obtain rfl | rfl | rfl | rfl | rfl | rfl | rfl : k = 0 ∨ k = 1 ∨ k = 2 ∨ k = 3 ∨ k = 4 ∨ k = 5 ∨ k = 6 := by omega
  all_goals rfl
abbrev natV (l : List Nat) : List Value := l.map fun i : Nat => Value.int .i64 (i : Int)
/-- the rows of findings: each in a block of its own -/
structure Six (W : World) (B : Nat) (f : Nat → Value) (L : Nat → List Nat) : Prop where
  row : ∀ k, k < 7 → W.ownsRow B 3 1 (f k) (L k).length (natV (L k))
  ne : ∀ j k, j < 7 → k < 7 → j ≠ k → (f j).ownBlock = none ∨ (f j).ownBlock ≠ (f k).ownBlock
section
variable {W W' : World} {B : Nat} {f : Nat → Value} {L : Nat → List Nat}
theorem Six.kept {row : Option Nat} (h : Six W B f L) (hg : W.grownBy W' row) (hn : ∀ k, k < 7 → (f k).ownBlock = none ∨ (f k).ownBlock ≠ row) : Six W' B f L :=
  ⟨fun k hk => (h.row k hk).kept hg (hn k hk), h.ne⟩
theorem Six.to (h : Six W B f L) (hb : Below W.heap.size W W') : Six W' B f L := h.kept (grown_of_below hb none) (fun k _ => by cases (f k).ownBlock <;> simp)
theorem Six.set {g : Nat} {t : TypeId} {cs : Array Value} (h : Six W B f L) (hB : Blk W g t cs) (hne : 3 ≠ t) (i : Nat) (u : Value) : Six (W.setCell ⟨g, i, none⟩ u) B f L :=
  ⟨fun k hk => row_set (h.row k hk) hB hne i u, h.ne⟩
theorem Six.app {k x g c : Nat} (h : Six W B f L) (hk : k < 7) (hown : W'.ownsRow B 3 1 (.slice (some ⟨g, 0, none⟩) ((L k).length + 1) c) ((L k).length + 1) (natV (L k) ++ [.int .i64 (x : Int)]))
    (hg : W.grownBy W' (f k).ownBlock) (hv : (f k).ownBlock = some g ∨ g = W.heap.size) : Six W' B (upF f k (.slice (some ⟨g, 0, none⟩) ((L k).length + 1) c)) (upF L k (L k ++ [x])) := by
  have lt : ∀ j, j < 7 → ∀ b, (f j).ownBlock = some b → b < W.heap.size := fun j hj b e => ((h.row j hj).lt b e).2
  have nk : ∀ j, j < 7 → j ≠ k → (f j).ownBlock = none ∨ (f j).ownBlock ≠ some g := fun j hj hjk => by
    rcases hv with hv | hv
    · rw [← hv]; exact h.ne j k hj hk hjk
    · cases e : (f j).ownBlock with
      | none => exact .inl rfl
      | some b =>
        have := lt j hj b e
        exact .inr (by intro e'; injection e' with e'; omega)
  refine ⟨fun j hj => ?_, fun i j hi hj hij => ?_⟩
  · unfold upF
    by_cases e : j = k
    · subst e
      simp only [if_true, List.length_append, List.length_singleton]
      simpa [natV] using hown
    · simp only [if_neg e]
      exact (h.row j hj).kept hg (h.ne j k hj hk e)
  · unfold upF
    by_cases e1 : i = k
    · subst e1
      simp only [if_true, if_neg (Ne.symm hij)]
      rcases nk j hj (Ne.symm hij) with e | e
      · exact .inr (by rw [e]; simp [Value.ownBlock])
      · exact .inr (fun e' => e e'.symm)
    · by_cases e2 : j = k
      · subst e2
        simp only [if_true, if_neg e1]
        exact nk i hi e1
      · simp only [if_neg e1, if_neg e2]
        exact h.ne i j hi hj hij
theorem Six.nil (W : World) (B : Nat) : Six W B (fun _ => .slice none 0 0) (fun _ => []) := ⟨fun _ _ => World.ownsRow_nil _ _ _ _, fun _ _ _ _ _ => .inl rfl⟩
theorem Six.notMap (h : Six W B f L) {b : Nat} {es : Array MapEntry} {c : Nat} (hb : W.heap[b]? = some (.map es c)) : ∀ k, k < 7 → (f k).ownBlock = none ∨ (f k).ownBlock ≠ some b := fun k hk => by
  rcases (h.row k hk).2 with ⟨e, _⟩ | ⟨g, cap, cur, e, _, hg, _⟩
  · exact .inl (by rw [e]; rfl)
  · refine .inr fun e2 => ?_
    rw [e] at e2
    obtain rfl : g = b := by simpa [Value.ownBlock] using e2
    rw [hg] at hb; cases hb
end
theorem MapB.blk {W : World} {k b n : Nat} {D : DataW Unit} (h : MapB W k b n D) : ∃ es c, W.heap[b]? = some (.map es c) := by
  obtain ⟨es, c, hb, _⟩ := h
  exact ⟨es, c, hb⟩
theorem MapB.to {W W' : World} {k b n : Nat} {D : DataW Unit} (h : MapB W k b n D) (hb : Below W.heap.size W W') : MapB W' k b n D := World.ownsMap.kept h (grown_of_below hb none) (by simp)
/-- a row's growth keeps a map -/
theorem MapB.row {W W' : World} {k b n : Nat} {D : DataW Unit} (h : MapB W k b n D) {B e sz m : Nat} {v : Value} {xs : List Value} (hr : W.ownsRow B e sz v m xs) (hg : W.grownBy W' v.ownBlock) : MapB W' k b n D := by
  obtain ⟨es, c, hb⟩ := h.blk
  refine World.ownsMap.kept h hg (fun e => ?_)
  rcases hr.2 with ⟨rfl, _⟩ | ⟨g, cap, cur, rfl, _, hg', _⟩
  · cases e
  · obtain rfl : b = g := by simpa [Value.ownBlock] using e
    rw [hg'] at hb; cases hb
/-- a map's growth keeps blocks, rows, and other maps -/
theorem Own.gmap {w W W' : World} {L : List (Nat × TypeId × Array Value)} {k b n : Nat} {D : DataW Unit} (h : Own w W L) (hm : MapB W k b n D) (hb : w.heap.size ≤ b) (hg : W.grownBy W' (some b)) : Own w W' L := by
  obtain ⟨es, c, he⟩ := hm.blk
  refine ⟨h.1.grown hg h.1.size (fun j hj => by injection hj with hj; omega), fun x hx => (h.2 x hx).grown hg (fun e => ?_)⟩
  injection e with e
  have := h.2 x hx
  unfold Blk at this
  rw [e, he] at this
  cases this
theorem row_gmap {W W' : World} {k b n : Nat} {D : DataW Unit} (hm : MapB W k b n D) (hg : W.grownBy W' (some b)) {B e sz m : Nat} {v : Value} {xs : List Value} (hr : W.ownsRow B e sz v m xs) : W'.ownsRow B e sz v m xs := by
  obtain ⟨es, c, he⟩ := hm.blk
  refine hr.kept hg ?_
  rcases hr.2 with ⟨rfl, _⟩ | ⟨g, cap, cur, rfl, _, hg', _⟩
  · exact .inl rfl
  · refine .inr fun e2 => ?_
    obtain rfl : g = b := by simpa [Value.ownBlock] using e2
    rw [hg'] at he; cases he
theorem Six.gmap {W W' : World} {B : Nat} {f : Nat → Value} {L : Nat → List Nat} {k b n : Nat} {D : DataW Unit} (h : Six W B f L) (hm : MapB W k b n D) (hg : W.grownBy W' (some b)) : Six W' B f L :=
  ⟨fun j hj => row_gmap hm hg (h.row j hj), h.ne⟩
theorem MapB.gmap {W W' : World} {k b n b2 : Nat} {D : DataW Unit} (h : MapB W k b n D) (hne : b ≠ b2) (hg : W.grownBy W' (some b2)) : MapB W' k b n D := World.ownsMap.kept h hg (by simpa using hne)
/-- the bools of the spots so far -/
def farC (l : List Spt) (k i : Nat) : Value := .bool (if i < k then !okS (spA l i) else false)
def farR (l : List Spt) (k : Nat) : Array Value := mkRow l.length (farC l k)
end Go.Proofs.YtdcdfjinbieblaaGreatDoor

namespace Go.Proofs.YtdcdfjinbieblaaGreatDoor
open Go.Lib

def isDg (c : UInt8) : Prop := 48 ≤ c.toNat ∧ c.toNat ≤ 57
theorem dgN {k : Nat} (h : k < 10) : (UInt8.ofNat (48 + k)).toNat = 48 + k := by
  rw [UInt8.toNat_ofNat']
  omega
theorem dec_small {u : Nat} (h : u < 10) : decDigits u = [UInt8.ofNat (48 + u)] := by rw [decDigits, dif_pos h]
theorem dec_big {u : Nat} (h : ¬ u < 10) : decDigits u = decDigits (u / 10) ++ [UInt8.ofNat (48 + u % 10)] := by rw [decDigits, dif_neg h]
theorem dec_ne (u : Nat) : decDigits u ≠ [] := by
  by_cases h : u < 10
  · rw [dec_small h]; simp
  · rw [dec_big h]; simp
theorem dec_dg : ∀ (u : Nat), ∀ c ∈ decDigits u, isDg c := by
  intro u
  induction u using Nat.strongRecOn with
  | _ u ih =>
    intro c hc
    by_cases h : u < 10
    · rw [dec_small h] at hc
      rw [List.mem_singleton.1 hc]
      unfold isDg
      rw [dgN h]
      omega
    · rw [dec_big h] at hc
      rcases List.mem_append.1 hc with h1 | h1
      · exact ih (u / 10) (by omega) c h1
      · rw [List.mem_singleton.1 h1]
        unfold isDg
        rw [dgN (by omega)]
        omega
/-- what digits spell, behind a number -/
def valL (acc : Nat) (l : List UInt8) : Nat := l.foldl (fun a c => a * 10 + (c.toNat - 48)) acc
theorem valL_append (acc : Nat) (l r : List UInt8) : valL acc (l ++ r) = valL (valL acc l) r := List.foldl_append
theorem valL_dec : ∀ (u : Nat), valL 0 (decDigits u) = u := by
  intro u
  induction u using Nat.strongRecOn with
  | _ u ih =>
    by_cases h : u < 10
    · rw [dec_small h]
      show 0 * 10 + ((UInt8.ofNat (48 + u)).toNat - 48) = u
      rw [dgN h]
      omega
    · rw [dec_big h, valL_append, ih (u / 10) (by omega)]
      show u / 10 * 10 + ((UInt8.ofNat (48 + u % 10)).toNat - 48) = u
      rw [dgN (by omega)]
      omega
theorem valL_ge (acc : Nat) (l : List UInt8) : acc ≤ valL acc l := by
  induction l generalizing acc with
  | nil => exact Nat.le_refl _
  | cons c r ih =>
    have := ih (acc * 10 + (c.toNat - 48))
    show acc ≤ valL (acc * 10 + (c.toNat - 48)) r
    omega
theorem valL_lt (l : List UInt8) (h : ∀ c ∈ l, isDg c) (acc : Nat) : valL acc l < (acc + 1) * 10 ^ l.length := by
  induction l generalizing acc with
  | nil => show acc < (acc + 1) * 1; omega
  | cons c r ih =>
    have h1 := ih (fun x hx => h x (List.mem_cons_of_mem _ hx)) (acc * 10 + (c.toNat - 48))
    have h2 := h c (List.mem_cons_self ..)
    unfold isDg at h2
    show valL (acc * 10 + (c.toNat - 48)) r < _
    rw [List.length_cons, Nat.pow_succ, Nat.mul_comm (10 ^ r.length) 10, ← Nat.mul_assoc]
    exact Nat.lt_of_lt_of_le h1 (Nat.mul_le_mul_right _ (by omega))
/-- digits without superfluous zeros are the numeral of what they spell -/
theorem dec_valL (l : List UInt8) (h : ∀ c ∈ l, isDg c) (h1 : l ≠ []) (h0 : 1 < l.length → l.head?.map UInt8.toNat ≠ some 48) : decDigits (valL 0 l) = l := by
  have key : ∀ (r : List UInt8) (c : UInt8), (∀ x ∈ r, isDg x) → isDg c → c.toNat ≠ 48 → decDigits (valL 0 (c :: r)) = c :: r := by
    intro r
    induction hn : r.length generalizing r with
    | zero =>
      intro c _ hc _
      rw [List.length_eq_zero_iff.1 hn]
      unfold isDg at hc
      show decDigits (0 * 10 + (c.toNat - 48)) = [c]
      rw [dec_small (by omega)]
      congr 1
      apply UInt8.toNat_inj.1
      rw [dgN (by omega)]
      omega
    | succ n ih =>
      intro c hr hc hz
      obtain ⟨r', x, rfl⟩ : ∃ r' x, r = r' ++ [x] := ⟨r.dropLast, r.getLast (by intro e; simp [e] at hn), (List.dropLast_concat_getLast _).symm⟩
      have hl : r'.length = n := by simp at hn; omega
      have e := ih r' hl c (fun y hy => hr y (List.mem_append_left _ hy)) hc hz
      have hx := hr x (by simp)
      unfold isDg at hx hc
      have hv : 1 ≤ valL 0 (c :: r') := by
        have := valL_ge (0 * 10 + (c.toNat - 48)) r'
        show 1 ≤ valL (0 * 10 + (c.toNat - 48)) r'
        omega
      rw [← List.cons_append, valL_append]
      show decDigits (valL 0 (c :: r') * 10 + (x.toNat - 48)) = _
      generalize valL 0 (c :: r') = v at *
      rw [dec_big (by omega), show (v * 10 + (x.toNat - 48)) / 10 = v by omega, e]
      congr 2
      apply UInt8.toNat_inj.1
      rw [dgN (by omega)]
      omega
  cases l with
  | nil => exact absurd rfl h1
  | cons c r =>
    by_cases hz : c.toNat = 48
    · have : r = [] := by
        cases r with
        | nil => rfl
        | cons d r => exact absurd (by simp [hz]) (h0 (by simp))
      subst this
      show decDigits (0 * 10 + (c.toNat - 48)) = [c]
      rw [hz, dec_small (by omega)]
      congr 1
      apply UInt8.toNat_inj.1
      rw [hz]
      rfl
    · exact key r c (fun x hx => h x (List.mem_cons_of_mem _ hx)) (h c (List.mem_cons_self ..)) hz
theorem dec_head {u : Nat} (h : 10 ≤ u) : (decDigits u).head?.map UInt8.toNat ≠ some 48 := by
  have : ∀ v, 1 ≤ v → (decDigits v).head?.map UInt8.toNat ≠ some 48 := by
    intro v
    induction v using Nat.strongRecOn with
    | _ v ih =>
      intro hv
      by_cases h : v < 10
      · rw [dec_small h]
        show some (UInt8.ofNat (48 + v)).toNat ≠ some 48
        rw [dgN h]
        intro e
        injection e
        omega
      · rw [dec_big h, List.head?_append]
        have hi := ih (v / 10) (by omega) (by omega)
        cases hd : decDigits (v / 10) with
        | nil => exact absurd hd (dec_ne _)
        | cons c r => rw [hd] at hi; simpa using hi
  exact this u (by omega)
theorem dec_len1 {u : Nat} (h : 1 < (decDigits u).length) : 10 ≤ u := by
  by_cases h1 : u < 10
  · rw [dec_small h1] at h; simp at h
  · omega
/-- ParseUint over digits -/
theorem parse_digits (l : List UInt8) (h : ∀ c ∈ l, isDg c) (acc : Nat) (hv : valL acc l < 18446744073709551616) : parseUint10 acc l = .ok (valL acc l) := by
  induction l generalizing acc with
  | nil => rfl
  | cons c r ih =>
    have h2 := h c (List.mem_cons_self ..)
    unfold isDg at h2
    have e : valL acc (c :: r) = valL (acc * 10 + (c.toNat - 48)) r := rfl
    have hg := valL_ge (acc * 10 + (c.toNat - 48)) r
    rw [e] at hv ⊢
    have h3 := ih (fun x hx => h x (List.mem_cons_of_mem _ hx)) (acc * 10 + (c.toNat - 48)) hv
    simp only [parseUint10]
    rw [if_pos h2, if_neg (by omega), if_neg (by omega)]
    exact h3
theorem atoi_digits (l : List UInt8) (h : ∀ c ∈ l, isDg c) (h1 : l ≠ []) (hv : valL 0 l < 9223372036854775808) : atoiAll l = .ok (valL 0 l : Nat) := by
  cases l with
  | nil => exact absurd rfl h1
  | cons c r =>
    have h2 := h c (List.mem_cons_self ..)
    unfold isDg at h2
    rw [atoiAll_plain c r (by omega) (by omega)]
    unfold parseMag
    rw [if_neg (by simp), parse_digits (c :: r) h 0 (by omega)]
    simp only [signless]
    rw [if_neg (by omega)]
theorem itoa_nat (u : Nat) : itoa (u : Int) = decDigits u := by unfold itoa; rw [if_neg (by omega)]; rfl
theorem itoa_neg {n : Int} (h : n < 0) : itoa n = 45 :: decDigits n.natAbs := by unfold itoa; rw [if_pos h]
theorem itoa_pos {n : Int} (h : 0 ≤ n) : itoa n = decDigits n.toNat := by unfold itoa; rw [if_neg (by omega)]
theorem atoi_itoa {n : Int} (h0 : -9223372036854775808 ≤ n) (h1 : n ≤ 9223372036854775807) : atoiAll (itoa n) = .ok n := by
  by_cases h : n < 0
  · rw [itoa_neg h, atoiAll_minus]
    unfold parseMag
    rw [if_neg (dec_ne _), parse_digits _ (dec_dg _) 0 (by rw [valL_dec]; omega), valL_dec]
    simp only [signed]
    rw [if_neg (by omega)]
    congr 1
    omega
  · rw [itoa_pos (by omega), atoi_digits _ (dec_dg _) (dec_ne _) (by rw [valL_dec]; omega), valL_dec]
    congr 1
    omega
theorem itoa_mem {n : Int} {c : UInt8} (h : c ∈ itoa n) : isDg c ∨ c.toNat = 45 := by
  by_cases hn : n < 0
  · rw [itoa_neg hn] at h
    rcases List.mem_cons.1 h with rfl | h
    · exact .inr rfl
    · exact .inl (dec_dg _ _ h)
  · rw [itoa_pos (by omega)] at h
    exact .inl (dec_dg _ _ h)
theorem itoa_inj {m n : Int} (h : itoa m = itoa n) : m = n := by
  by_cases hm : m < 0
  · by_cases hn : n < 0
    · rw [itoa_neg hm, itoa_neg hn] at h
      injection h with _ h
      have := congrArg (valL 0) h
      rw [valL_dec, valL_dec] at this
      omega
    · rw [itoa_neg hm, itoa_pos (by omega)] at h
      have : (45 : UInt8) ∈ decDigits n.toNat := h ▸ List.mem_cons_self ..
      have := dec_dg _ _ this
      exact absurd this (by unfold isDg; decide)
  · by_cases hn : n < 0
    · rw [itoa_pos (by omega), itoa_neg hn] at h
      have : (45 : UInt8) ∈ decDigits m.toNat := h ▸ List.mem_cons_self ..
      have := dec_dg _ _ this
      exact absurd this (by unfold isDg; decide)
    · rw [itoa_pos (by omega), itoa_pos (by omega)] at h
      have := congrArg (valL 0) h
      rw [valL_dec, valL_dec] at this
      omega
/-- no instance where the first byte is not there -/
theorem index_no {c : UInt8} {t : List UInt8} : ∀ {s : List UInt8}, c ∉ s → index s (c :: t) = -1
  | [], _ => by simp [index]
  | b :: l, h => by
    have h1 : ¬ c = b := fun e => h (e ▸ List.mem_cons_self ..)
    have h2 := index_no (t := t) (fun h' => h (List.mem_cons_of_mem _ h') : c ∉ l)
    simp [index, List.isPrefixOf, h1, h2]
theorem index_at {c : UInt8} {t r : List UInt8} : ∀ {a : List UInt8}, c ∉ a → index (a ++ ((c :: t) ++ r)) (c :: t) = (a.length : Int)
  | [], _ => by
    have : (c :: t).isPrefixOf (c :: (t ++ r)) = true := by
      rw [List.isPrefixOf_iff_prefix]
      exact ⟨r, rfl⟩
    simp [index, this]
  | b :: l, h => by
    have h1 : ¬ c = b := fun e => h (e ▸ List.mem_cons_self ..)
    have h2 := index_at (t := t) (r := r) (fun h' => h (List.mem_cons_of_mem _ h') : c ∉ l)
    rw [List.cons_append]
    have h3 : (c :: t).isPrefixOf (b :: (l ++ ((c :: t) ++ r))) = false := by simp [List.isPrefixOf, h1]
    rw [index, h3, h2]
    have : ((l.length : Int) == -1) = false := by simp
    simp [this]
theorem cut_no {c : UInt8} {t s : List UInt8} (h : c ∉ s) : cut s (c :: t) = (s, [], false) := by
  unfold cut
  rw [index_no h, if_neg (by omega)]
theorem cut_at {c : UInt8} {t a r : List UInt8} (h : c ∉ a) : cut (a ++ ((c :: t) ++ r)) (c :: t) = (a, r, true) := by
  unfold cut
  rw [index_at h, if_pos (by omega)]
  simp
end Go.Proofs.YtdcdfjinbieblaaGreatDoor

namespace Go.Proofs.YtdcdfjinbieblaaGreatDoor
open Go Go.RowKit

abbrev strV (l : List UInt8) : Value := .string ⟨l.toArray⟩
theorem strV_data (s : ByteArray) : strV s.data.toList = .string s := by cases s; rfl
theorem strV_inj {a b : List UInt8} (h : strV a = strV b) : a = b := by
  injection h with h
  injection h with h
  simpa using h
theorem ba_append (a b : List UInt8) : (⟨a.toArray⟩ : ByteArray) ++ ⟨b.toArray⟩ = ⟨(a ++ b).toArray⟩ := by
  apply ByteArray.ext
  rw [ByteArray.data_append]
  simp
theorem tab_below {w w' : World} (h : Lib.TabIs Tryz.prog w "internal/strconv.uint64pow10" .u64 Lib.pow10Tab) (hb : Below w.heap.size w w') : Lib.TabIs Tryz.prog w' "internal/strconv.uint64pow10" .u64 Lib.pow10Tab := by
  unfold Lib.TabIs World.var? at *
  cases hg : (Tryz.prog).globalNamed "internal/strconv.uint64pow10" with
  | none => simp [hg] at h
  | some g =>
    simp only [hg, Option.bind_some] at h ⊢
    have hlt : g < w.heap.size := by
      rcases Nat.lt_or_ge g w.heap.size with h' | h'
      · exact h'
      · rw [Array.getElem?_eq_none h'] at h; simp at h
    rw [hb.block g hlt]
    exact h
def RetV (v : Value) (w : World) (e : Ending) (w' : World) : Prop := e = .returned v ∧ Below w.heap.size w w'
end Go.Proofs.YtdcdfjinbieblaaGreatDoor
