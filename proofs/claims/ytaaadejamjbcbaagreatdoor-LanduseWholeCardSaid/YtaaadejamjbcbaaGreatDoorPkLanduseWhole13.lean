/- Parts of one proof, joined: Bytes of strings: the rest of a string from a place on. Decimal integers without sign of at most nine digits: the program's number: what each returns; nothing that was there is turned. The program's class of a line: what it returns; nothing that was there is turned. A row in the making that a variable's block holds, beside blocks of the call's own and blocks that are kept. In a fence: append with the new slice written out; what a callee keeps; the last steps of a range over a function. Rows of classes of the call's own, read as slices. -/
import Derived.Test.YtaaadejamjbcbaaGreatDoorPkLanduseWhole5
import Derived.Test.YtaaadejamjbcbaaGreatDoorPkLanduseWhole12
import Derived.Test.YtaaadejamjbcbaaGreatDoorPkLanduseWhole8
import Derived.Test.YtaaadejamjbcbaaGreatDoorPkLanduseWhole2
import Derived.Deep.AppendLies
import Derived.RangeFuncOwn
import Derived.RangeFuncWrites
namespace Go.Proofs.YtaaadejamjbcbaaGreatDoor
open Go Go.RowKit

theorem drop_byteD (s : ByteArray) (k : Nat) (h : k < s.size) : s.data.toList.drop k = s[k] :: s.data.toList.drop (k + 1) := by
  rw [List.drop_eq_getElem_cons (by simpa using h)]; rfl
theorem byteD (b : UInt8) : (0 : Int) ≤ (b.toNat : Int) ∧ (b.toNat : Int) < 256 := ⟨by omega, by have := b.toNat_lt; omega⟩
theorem head_byte (s : ByteArray) (h : 0 < s.size) : s.data.toList.head? = some s[0] := by
  have := drop_byteD s 0 h
  rw [List.drop_zero] at this
  rw [this]; rfl
theorem enc_digit (d : Nat) (h : d < 10) : Utf8.encode (48 + (d : Int)) = ⟨#[UInt8.ofNat (48 + d)]⟩ := by
  have key : ∀ d : Fin 10, Utf8.encode (48 + (d.val : Int)) = ⟨#[UInt8.ofNat (48 + d.val)]⟩ := by decide +kernel
  exact key ⟨d, h⟩
/-- the numeral by its last digit -/
theorem itoa_last {n : Int} {q : Int} {d : Nat} (h : 10 ≤ n.natAbs) (hq : n.tdiv 10 = q) (hd : (n.tmod 10).natAbs = d) : Lib.itoa n = Lib.itoa q ++ [UInt8.ofNat (48 + d)] := by
  have e1 : q.natAbs = n.natAbs / 10 := by rw [← hq, Int.natAbs_tdiv]; rfl
  have e2 : d = n.natAbs % 10 := by rw [← hd, Int.natAbs_tmod]; rfl
  by_cases hn : n < 0
  · have rb : d < 10 := by rw [e2]; exact Nat.mod_lt _ (by decide)
    have rq := Int.tmod_add_mul_tdiv n 10
    rw [hq] at rq
    have qn : q < 0 := by omega
    rw [itoa_neg hn, itoa_neg qn, dec_big (by omega), e1, e2]; rfl
  · have qn : ¬ q < 0 := by
      have : 0 ≤ n.tdiv 10 := Int.tdiv_nonneg (by omega) (by omega)
      omega
    rw [itoa_pos (by omega), itoa_pos (by omega), dec_big (by omega), show n.toNat = n.natAbs by omega, show q.toNat = q.natAbs by omega, e1, e2]
theorem itoa_first {n : Int} {d : Nat} (h : n.natAbs = d) (hd : d < 10) : Lib.itoa n = (if n < 0 then [45] else []) ++ [UInt8.ofNat (48 + d)] := by
  by_cases hn : n < 0
  · rw [itoa_neg hn, if_pos hn, h, dec_small hd]; rfl
  · rw [itoa_pos (by omega), if_neg hn, show n.toNat = d by omega, dec_small hd]; rfl
end Go.Proofs.YtaaadejamjbcbaaGreatDoor

namespace Go.Proofs.YtaaadejamjbcbaaGreatDoor
open Go Go.RowKit

def NumPost (v : Int) (b : Bool) (w : World) (e : Ending) (w' : World) : Prop := e = .returned (.tuple #[.int .i64 v, .bool b]) ∧ Below w.heap.size w w'
theorem NumPost.mk2 {v : Int} {b b' : Bool} {w w' : World} (hb : Below w.heap.size w w') (h : b = b') : NumPost v b w (.returned (.tuple #[.int .i64 v, .bool b'])) w' := by subst h; exact ⟨rfl, hb⟩
set_option maxRecDepth 100000 in
set_option maxHeartbeats 1000000 in
theorem number_any (l : List UInt8) (w : World) (hl : l.length ≤ 281474976710656) (ht : TxtW w) : Calls Tryz.prog 59 #[strV l] w (NumPost (atV l) (nuB l) w) := by
  have X := Own.start w
  have HT := hide ht
  have A1 := hide (fun W hW => atoiL l W hl hW)
  have bV := atV_bd l
  have I1 := hide (fun W hW => itoaL (atV l) W bV.1 bV.2 hW)
  have E : Hid (nuB l = (atB l && decide (l.length ≤ 9) && decide (Lib.itoa (atV l) = l) && decide (0 ≤ atV l))) := hide rfl
  clear ht
  generalize nuB l = nb at *
  generalize atB l = b1 at *
  generalize hv : atV l = v at *
  generalize Lib.itoa v = tv at *
  clear hv
  cases b1
  · have E2 : Hid (nb = false) := hide (by rw [E.out]; rfl)
    clear E
    go_enter Tryz.func59, Tryz.ntmps59
    go_wp2_with fail
    refine (A1.out _ HT.out).mono ?_
    rintro e w1 ⟨⟨ev1, rfl, h1, h2⟩, hb⟩
    obtain ⟨te, pe1, rfl⟩ := h2 rfl
    replace X := X.to hb
    clear h1 h2 hb
    go_wp2
    exact bodyPost_ret (v := .tuple #[.int .i64 v, .bool false]) (by simp [results, Tryz.results59, go_sem]) rfl (NumPost.mk2 X.1 E2.out)
  · by_cases hl9 : l.length ≤ 9
    · by_cases hq : tv = l
      · by_cases h0 : 0 ≤ v
        · have E2 : Hid (nb = true) := hide (by rw [E.out]; simp [hl9, hq, h0])
          have q1 : (tv == l) = true := by simp [hq]
          clear E hq
          go_enter Tryz.func59, Tryz.ntmps59
          go_wp2_with fail
          refine (A1.out _ HT.out).mono ?_
          rintro e w1 ⟨⟨ev1, rfl, h1, h2⟩, hb⟩
          obtain rfl := h1 rfl
          replace X := X.to hb
          clear h1 h2 hb
          go_wp2_with fail
          refine (I1.out _ (HT.out.below X.1)).mono ?_
          rintro e w2 ⟨rfl, hb⟩
          replace X := X.to hb
          clear hb
          go_wp2
          exact bodyPost_ret (v := .tuple #[.int .i64 v, .bool true]) (by simp [results, Tryz.results59, go_sem]) rfl (NumPost.mk2 X.1 E2.out)
        · have E2 : Hid (nb = false) := hide (by rw [E.out]; simp [h0])
          have q1 : (tv == l) = true := by simp [hq]
          have q2 : decide (0 ≤ v) = false := decide_eq_false h0
          clear E hq
          go_enter Tryz.func59, Tryz.ntmps59
          go_wp2_with fail
          refine (A1.out _ HT.out).mono ?_
          rintro e w1 ⟨⟨ev1, rfl, h1, h2⟩, hb⟩
          obtain rfl := h1 rfl
          replace X := X.to hb
          clear h1 h2 hb
          go_wp2_with fail
          refine (I1.out _ (HT.out.below X.1)).mono ?_
          rintro e w2 ⟨rfl, hb⟩
          replace X := X.to hb
          clear hb
          go_wp2
          exact bodyPost_ret (v := .tuple #[.int .i64 v, .bool false]) (by simp [results, Tryz.results59, go_sem]) rfl (NumPost.mk2 X.1 E2.out)
      · have E2 : Hid (nb = false) := hide (by rw [E.out]; simp [hq])
        have q1 : (tv == l) = false := by simp [hq]
        clear E hq
        go_enter Tryz.func59, Tryz.ntmps59
        go_wp2_with fail
        refine (A1.out _ HT.out).mono ?_
        rintro e w1 ⟨⟨ev1, rfl, h1, h2⟩, hb⟩
        obtain rfl := h1 rfl
        replace X := X.to hb
        clear h1 h2 hb
        go_wp2_with fail
        refine (I1.out _ (HT.out.below X.1)).mono ?_
        rintro e w2 ⟨rfl, hb⟩
        replace X := X.to hb
        clear hb
        go_wp2
        exact bodyPost_ret (v := .tuple #[.int .i64 v, .bool false]) (by simp [results, Tryz.results59, go_sem]) rfl (NumPost.mk2 X.1 E2.out)
    · have E2 : Hid (nb = false) := hide (by rw [E.out]; simp [hl9])
      have q2 : decide ((l.length : Int) ≤ 9) = false := decide_eq_false (by omega)
      clear E
      go_enter Tryz.func59, Tryz.ntmps59
      go_wp2_with fail
      refine (A1.out _ HT.out).mono ?_
      rintro e w1 ⟨⟨ev1, rfl, h1, h2⟩, hb⟩
      obtain rfl := h1 rfl
      replace X := X.to hb
      clear h1 h2 hb
      go_wp2
      exact bodyPost_ret (v := .tuple #[.int .i64 v, .bool false]) (by simp [results, Tryz.results59, go_sem]) rfl (NumPost.mk2 X.1 E2.out)
/-- what the reference's Number returns -/
def rnV (l : List UInt8) : Int := if rnB l then (valL 0 l : Nat) else 0
theorem rn_len {l : List UInt8} (h : ¬ (1 ≤ l.length ∧ l.length ≤ 9)) : rnB l = false ∧ rnV l = 0 := by
  have : rnB l = false := by
    rcases Bool.eq_false_or_eq_true (rnB l) with h1 | h1
    · have := rn_facts h1
      have h2 := List.length_pos_iff.2 this.2.1
      omega
    · exact h1
  exact ⟨this, by unfold rnV; rw [if_neg (by rw [this]; simp)]⟩
theorem rn_zero {l : List UInt8} (h : 1 < l.length) (h0 : l.head? = some 48) : rnB l = false ∧ rnV l = 0 := by
  have : rnB l = false := by
    rcases Bool.eq_false_or_eq_true (rnB l) with h1 | h1
    · exact absurd (by rw [h0]; rfl) ((rn_facts h1).2.2.2 h)
    · exact h1
  exact ⟨this, by unfold rnV; rw [if_neg (by rw [this]; simp)]⟩
theorem rn_bad {l : List UInt8} {c : UInt8} (h : c ∈ l) (h0 : ¬ isDg c) : rnB l = false ∧ rnV l = 0 := by
  have : rnB l = false := by
    rcases Bool.eq_false_or_eq_true (rnB l) with h1 | h1
    · exact absurd ((rn_facts h1).1 c h) h0
    · exact h1
  exact ⟨this, by unfold rnV; rw [if_neg (by rw [this]; simp)]⟩
theorem rn_good {l : List UInt8} (h1 : 1 ≤ l.length) (h9 : l.length ≤ 9) (hz : 1 < l.length → l.head? ≠ some 48) (hd : ∀ c ∈ l, isDg c) : rnB l = true ∧ rnV l = (valL 0 l : Nat) := by
  have : rnB l = true := by
    unfold rnB
    simp only [Bool.and_eq_true, decide_eq_true_eq, Bool.not_eq_true', Bool.and_eq_false_iff, decide_eq_false_iff_not]
    refine ⟨⟨⟨h1, h9⟩, ?_⟩, all_dg.2 hd⟩
    by_cases h : 1 < l.length
    · exact .inr (hz h)
    · exact .inl h
  exact ⟨this, by unfold rnV; rw [if_pos this]⟩
theorem u8_digit {d : Nat} (h1 : 48 ≤ d) (h2 : d ≤ 57) : IntKind.u8.wrap ((d : Int) - 48) = ((d - 48 : Nat) : Int) ∧ IntKind.i64.wrap (((d - 48 : Nat) : Int)) = ((d - 48 : Nat) : Int) := by
  constructor
  · simp [IntKind.wrap, IntKind.signed, IntKind.bits]; omega
  · exact IntWalk.i64_in _ (by omega)
theorem val_take {l : List UInt8} {k : Nat} (h : k < l.length) : valL 0 (l.take (k + 1)) = valL 0 (l.take k) * 10 + (l[k].toNat - 48) := by
  rw [List.take_succ_eq_append_getElem h, valL_append]
  rfl
end Go.Proofs.YtaaadejamjbcbaaGreatDoor

namespace Go.Proofs.YtaaadejamjbcbaaGreatDoor
open Go Go.RowKit

def clZ : Cls := ⟨⟨#[]⟩, 0, 0, 0, 0⟩
def clR (l : List UInt8) : Cls := if clB l then clC l else clZ
def ClPost (l : List UInt8) (w : World) (e : Ending) (w' : World) : Prop := e = .returned (.tuple #[(clR l).val, .bool (clB l)]) ∧ Below w.heap.size w w'
theorem ClPost.no {l : List UInt8} {w w' : World} (hb : Below w.heap.size w w') (h : clB l = false) : ClPost l w (.returned (.tuple #[.agg #[.string ⟨#[]⟩, .int .i64 0, .int .i64 0, .int .i64 0, .int .i64 0], .bool false])) w' := by
  unfold ClPost clR
  rw [h]
  exact ⟨rfl, hb⟩
theorem ClPost.yes {l : List UInt8} {a b c d e : List UInt8} {w w' : World} (hb : Below w.heap.size w w') (h : pts 32 l = [a, b, c, d, e]) (h1 : nameB a = true) (h2 : nuB b = true ∧ nuB c = true ∧ nuB d = true ∧ nuB e = true) :
    ClPost l w (.returned (.tuple #[.agg #[strV a, .int .i64 (atV b), .int .i64 (atV c), .int .i64 (atV d), .int .i64 (atV e)], .bool true])) w' := by
  obtain ⟨n2, n3, n4, n5⟩ := h2
  have k := fun x (h : nuB x = true) => (num_same x).2 (by rw [← (num_same x).1]; exact h)
  have hB : clB l = true := by
    unfold clB
    rw [h]
    simp [cnvB, h1, ← (num_same _).1, n2, n3, n4, n5]
  unfold ClPost clR
  rw [hB, k b n2, k c n3, k d n4, k e n5]
  refine ⟨?_, hb⟩
  unfold clC
  rw [h]
  rfl
theorem cl_len {l : List UInt8} (h : (pts 32 l).length ≠ 5) : clB l = false := by
  unfold clB
  match hp : pts 32 l with
  | [] => rfl
  | [_] => rfl
  | [_, _] => rfl
  | [_, _, _] => rfl
  | [_, _, _, _] => rfl
  | [_, _, _, _, _] => rw [hp] at h; exact absurd rfl h
  | _ :: _ :: _ :: _ :: _ :: _ :: _ => rfl
theorem cl_name {l : List UInt8} {a b c d e : List UInt8} (h : pts 32 l = [a, b, c, d, e]) (h1 : nameB a = false) : clB l = false := by
  unfold clB; rw [h]; simp [cnvB, h1]
theorem cl_num {l : List UInt8} {a b c d e : List UInt8} (h : pts 32 l = [a, b, c, d, e]) {k : Nat} (hk : k < 4) (h1 : nuB ([b, c, d, e].getD k []) = false) : clB l = false := by
  unfold clB
  rw [h]
  rw [(num_same _).1] at h1
  match k, hk with
  | 0, _ => simp at h1; simp [cnvB, h1]
  | 1, _ => simp at h1; simp [cnvB, h1]
  | 2, _ => simp at h1; simp [cnvB, h1]
  | 3, _ => simp at h1; simp [cnvB, h1]
theorem five {α : Type} {l : List α} (h : l.length = 5) : ∃ a b c d e, l = [a, b, c, d, e] := by
  match l, h with
  | [a, b, c, d, e], _ => exact ⟨a, b, c, d, e, rfl⟩
def arrF (u : List (List UInt8)) (k j : Nat) : Value := if j < k then .int .i64 (atV (u.getD j [])) else .int .i64 0
theorem arrF_set (u : List (List UInt8)) (k n : Nat) : (mkRow n (arrF u k)).setIfInBounds k (.int .i64 (atV (u.getD k []))) = mkRow n (arrF u (k + 1)) := by
  rw [mkRow_set]
  refine mkRow_congr fun i _ => ?_
  unfold arrF
  by_cases h : i = k
  · subst h; rw [if_pos rfl, if_pos (by omega)]
  · rw [if_neg h]
    by_cases h2 : i < k
    · rw [if_pos h2, if_pos (by omega)]
    · rw [if_neg h2, if_neg (by omega)]
theorem arrF_zero (u : List (List UInt8)) : mkRow 4 (arrF u 0) = #[.int .i64 0, .int .i64 0, .int .i64 0, .int .i64 0] := rfl
set_option maxRecDepth 100000 in
set_option maxHeartbeats 4000000 in
theorem class_any (l : List UInt8) (w : World) (hl : l.length ≤ 1000000) (ht : TxtW w) : Calls Tryz.prog 39 #[strV l] w (ClPost l w) := by
  have X := (Own.start w).alloc #[.string ⟨#[]⟩, .int .i64 0, .int .i64 0, .int .i64 0, .int .i64 0] 57
  have HT := hide ht
  have SP := hide (fun W hW => split_any l 32 W (by omega) hW)
  have PL := hide (fun p (hp : p ∈ pts 32 l) => pts_len p hp)
  have CL := hide (fun h => cl_len (l := l) h)
  have CN := hide (fun a b c d e h h1 => cl_name (l := l) (a := a) (b := b) (c := c) (d := d) (e := e) h h1)
  have CM := hide (fun a b c d e h k hk h1 => cl_num (l := l) (a := a) (b := b) (c := c) (d := d) (e := e) h (k := k) hk h1)
  have CY := hide (fun a b c d e w' hb h h1 h2 => ClPost.yes (l := l) (a := a) (b := b) (c := c) (d := d) (e := e) (w := w) (w' := w') hb h h1 h2)
  clear ht
  have hr := X.r1
  by_cases h5 : (pts 32 l).length = 5
  case neg =>
    have E := hide (CL.out h5)
    have q1 : ((((pts 32 l).length : Nat) : Int) == 5) = false := by simp; omega
    have q2 : ((((pts 32 l).length : Nat) : Int) != 5) = true := by simp; omega
    clear CL CN CM CY h5
    generalize pts 32 l = ws at *
    go_enter Tryz.func39, Tryz.ntmps39
    go_wp2_with fail
    refine (SP.out _ (HT.out.below X.1)).mono ?_
    rintro e w1 ⟨hb, A, c, rfl, hsl, _⟩
    replace X := X.to hb
    clear hb hr hsl
    have hr := X.r1
    go_wp2
    exact bodyPost_ret (v := .tuple #[.agg #[.string ⟨#[]⟩, .int .i64 0, .int .i64 0, .int .i64 0, .int .i64 0], .bool false]) (by simp [results, Tryz.results39, hr, go_sem]) rfl (ClPost.no (by have HX := X.1; have hz := HX.size; go_grown) E.out)
  obtain ⟨a, b, c, d, e, hws⟩ := five h5
  have HW := hide hws
  rw [hws] at SP PL h5
  have la := PL.out a (by simp)
  have IN := hide (fun W => isname_any ⟨a.toArray⟩ W (by show a.length ≤ maxLen; unfold maxLen; omega))
  have LU : Hid (∀ k, k < 4 → ([b, c, d, e].getD k []).length ≤ 1000000) := hide fun k hk => by
    have : ([b, c, d, e].getD k []) ∈ [a, b, c, d, e] := by
      match k, hk with
      | 0, _ => simp
      | 1, _ => simp
      | 2, _ => simp
      | 3, _ => simp
    have := PL.out _ this
    omega
  rw [show (⟨a.toArray⟩ : ByteArray).data.toList = a by simp] at IN
  clear PL hws CL h5
  rcases Bool.eq_false_or_eq_true (nameB a) with hn | hn
  case inr =>
    have E := hide (CN.out a b c d e HW.out hn)
    rw [hn] at IN
    clear CN CM CY LU
    go_enter Tryz.func39, Tryz.ntmps39
    go_wp2_with fail
    refine (SP.out _ (HT.out.below X.1)).mono ?_
    rintro e' w1 ⟨hb, A, cp, rfl, hsl, hcp⟩
    obtain ⟨bb, off, rfl, hbl, hat⟩ := hsl.2 (by simp)
    have c0 : w1.cell? ⟨bb, off + 0, none⟩ = some (strV a) := hat 0 (by simp)
    rw [Nat.add_zero] at c0
    replace X := X.to hb
    clear hb hr hsl hat
    have hr := X.r1
    go_wp2_with fail
    refine (IN.out _).mono ?_
    rintro e' w2 ⟨rfl, rfl⟩
    go_wp2
    exact bodyPost_ret (v := .tuple #[.agg #[.string ⟨#[]⟩, .int .i64 0, .int .i64 0, .int .i64 0, .int .i64 0], .bool false]) (by simp [results, Tryz.results39, hr, go_sem]) rfl (ClPost.no (by have HX := X.1; have hz := HX.size; go_grown) E.out)
  have HN := hide hn
  rw [hn] at IN
  have Z4 := arrF_zero [b, c, d, e]
  clear CN hn
  go_enter Tryz.func39, Tryz.ntmps39
  go_wp2_with fail
  refine (SP.out _ (HT.out.below X.1)).mono ?_
  rintro e' w1 ⟨hb, A, cp, rfl, hsl, hcp⟩
  obtain ⟨bb, off, rfl, hbl, hat⟩ := hsl.2 (by simp)
  have c0 : w1.cell? ⟨bb, off + 0, none⟩ = some (strV a) := hat 0 (by simp)
  rw [Nat.add_zero] at c0
  have HU : Hid (∀ k, k < 4 → w1.cell? ⟨bb, off + (k + 1), none⟩ = some (strV ([b, c, d, e].getD k []))) := hide fun k hk => by
    have := hat (k + 1) (by simp; omega)
    rw [this]
    match k, hk with
    | 0, _ => rfl
    | 1, _ => rfl
    | 2, _ => rfl
    | 3, _ => rfl
  replace X := (X.to hb).alloc (mkRow 4 (arrF [b, c, d, e] 0)) 108
  rw [Z4] at X
  have lw : w.heap.size < w1.heap.size := Nat.lt_of_lt_of_le (by simp) hb.size
  clear hb hr hsl hat SP
  have hr := X.r2
  have c0' : (w1.alloc (.cells #[.int .i64 0, .int .i64 0, .int .i64 0, .int .i64 0] 108)).cell? ⟨bb, off, none⟩ = some (strV a) := (World.cell?_alloc_lt w1 _ ⟨bb, off, none⟩ hbl).trans c0
  go_wp2_with fail
  refine (IN.out _).mono ?_
  rintro e' w2 ⟨rfl, rfl⟩
  go_wp2
  rw [← Z4] at X
  have XH := hide X
  clear X hr c0'
  go_loopw [22] (fun v22 wr => ∃ k : Nat, k ≤ 4 ∧ v22 = .int .i64 (k : Int) ∧ Hid (∀ j, j < k → nuB ([b, c, d, e].getD j []) = true) ∧ Hid (Below w1.heap.size w1 wr) ∧
    Hid (Own w wr [(w1.heap.size, 108, mkRow 4 (arrF [b, c, d, e] k)), (w.heap.size, 57, #[.string ⟨#[]⟩, .int .i64 0, .int .i64 0, .int .i64 0, .int .i64 0])])) (fun v22 _ => 4 - (intOf v22).toNat)
  case atStart => exact ⟨0, by omega, rfl, hide (fun j hj => absurd hj (by omega)), hide ((Below.refl _ _).alloc (Nat.le_refl _) _), XH⟩
  case round =>
    obtain ⟨k, hk, rfl, HJ, HB, Y⟩ := hrel
    by_cases hlt : k < 4
    · have ck := (HB.out.cell (p := ⟨bb, off + (k + 1), none⟩) hbl).trans (HU.out k hlt)
      have NU := hide (fun W hW => number_any ([b, c, d, e].getD k []) W (by have := LU.out k hlt; omega) hW)
      have cz := (Y.out.r1.1 k).trans (mkRow_at 4 (arrF [b, c, d, e] k) hlt)
      rw [show arrF [b, c, d, e] k k = .int .i64 0 by simp [arrF]] at cz
      have fz := Y.out.r1.2.1 k
      have EM := hide (fun h => CM.out a b c d e HW.out k hlt h)
      have SS : Hid (∀ W, Own w W [(w1.heap.size, 108, mkRow 4 (arrF [b, c, d, e] k)), (w.heap.size, 57, #[.string ⟨#[]⟩, .int .i64 0, .int .i64 0, .int .i64 0, .int .i64 0])] →
          Own w (W.setCell ⟨w1.heap.size, k, none⟩ (.int .i64 (atV ([b, c, d, e].getD k [])))) [(w1.heap.size, 108, mkRow 4 (arrF [b, c, d, e] (k + 1))), (w.heap.size, 57, #[.string ⟨#[]⟩, .int .i64 0, .int .i64 0, .int .i64 0, .int .i64 0])]) := hide fun W h => by
        have := h.set0 (by omega) (by intro y hy; simp at hy; subst hy; show w.heap.size ≠ _; omega) k (.int .i64 (atV ([b, c, d, e].getD k [])))
        rw [arrF_set] at this
        exact this
      have i1 := IntWalk.i64_in ((k : Int) + 1) (by omega)
      have HX := hide (fun h (j : Nat) (hj : j < k + 1) => (by
        by_cases e : j = k
        · subst e; exact h
        · exact HJ.out j (by omega) : nuB ([b, c, d, e].getD j []) = true))
      have hr := Y.out.r2
      have hlw := Y.out.r1.2.2
      rcases Bool.eq_false_or_eq_true (nuB ([b, c, d, e].getD k [])) with hu | hu
      · have HX2 := hide (HX.out hu)
        rw [hu] at NU
        clear hu HX EM HJ
        generalize [b, c, d, e].getD k [] = x at *
        go_wp2_with fail
        refine (NU.out _ (HT.out.below Y.out.1)).mono ?_
        rintro e' w3 ⟨rfl, hb⟩
        have Y3 := hide (SS.out _ (Y.out.to hb))
        have HB3 : Hid (Below w1.heap.size w1 w3) := hide (below_via HB.out HB.out.size hb)
        have cz3 := (keeps hb _ _ _ cz)
        have fz3 : w3.frozen? ⟨w1.heap.size, k, none⟩ = false := (hb.frozen (p := ⟨w1.heap.size, k, none⟩) hlw).trans fz
        clear hb hr cz fz ck NU SS
        go_wp2
        go_roundw
        case rel => exact ⟨k + 1, by omega, by go_num, HX2, hide (below_set HB3.out (Nat.le_refl _) _), Y3⟩
        case measure => simp [intOf]; omega
      · have E := hide (EM.out hu)
        rw [hu] at NU
        clear hu HX EM HJ SS
        generalize [b, c, d, e].getD k [] = x at *
        go_wp2_with fail
        refine (NU.out _ (HT.out.below Y.out.1)).mono ?_
        rintro e' w3 ⟨rfl, hb⟩
        have X3 := Y.out.to hb
        clear hb hr cz fz ck NU
        have hr := X3.r2
        go_wp2
        exact bodyPost_ret (v := .tuple #[.agg #[.string ⟨#[]⟩, .int .i64 0, .int .i64 0, .int .i64 0, .int .i64 0], .bool false]) (by simp [results, Tryz.results39, hr, go_sem]) rfl (ClPost.no (by have HX := X3.1; have hz := HX.size; go_grown) E.out)
    · obtain rfl : k = 4 := by omega
      have ca := (HB.out.cell (p := ⟨bb, off, none⟩) hbl).trans c0
      have r1 : ∀ i, i < 4 → wr.cell? ⟨w1.heap.size, i, none⟩ = some (arrF [b, c, d, e] 4 i) := fun i hi => (Y.out.r1.1 i).trans (mkRow_at 4 _ hi)
      have k0 := r1 0 (by omega)
      have k1 := r1 1 (by omega)
      have k2 := r1 2 (by omega)
      have k3 := r1 3 (by omega)
      have u0 : arrF [b, c, d, e] 4 0 = .int .i64 (atV b) := rfl
      have u1 : arrF [b, c, d, e] 4 1 = .int .i64 (atV c) := rfl
      have u2 : arrF [b, c, d, e] 4 2 = .int .i64 (atV d) := rfl
      have u3 : arrF [b, c, d, e] 4 3 = .int .i64 (atV e) := rfl
      rw [u0] at k0
      rw [u1] at k1
      rw [u2] at k2
      rw [u3] at k3
      have NN := HJ.out
      have FY := hide (fun w' hb => CY.out a b c d e w' hb HW.out HN.out ⟨NN 0 (by omega), NN 1 (by omega), NN 2 (by omega), NN 3 (by omega)⟩)
      have hr := Y.out.tail.r1
      have hlw := Y.out.r1.2.2
      have BB := Y.out.1
      clear r1 u0 u1 u2 u3 NN HJ HU LU CM CY IN HT Y
      generalize atV b = vb at *
      generalize atV c = vc at *
      generalize atV d = vd at *
      generalize atV e = ve at *
      go_wp2
      go_region
      go_wp2
      exact bodyPost_ret (v := .tuple #[.agg #[strV a, .int .i64 vb, .int .i64 vc, .int .i64 vd, .int .i64 ve], .bool true]) (by simp [results, Tryz.results39, hr, go_sem]) rfl (FY.out _ (by have hz := BB.size; go_grown))
end Go.Proofs.YtaaadejamjbcbaaGreatDoor

namespace Go.Proofs.YtaaadejamjbcbaaGreatDoor
open Go Go.RowKit

theorem row_monoG {w : World} {base base' : Nat} {e : TypeId} {size : Nat} {v : Value} {n : Nat} {xs : List Value} (h : w.ownsRow base e size v n xs) (hb : base' ≤ base) : w.ownsRow base' e size v n xs :=
  ⟨h.1, h.2.imp id fun ⟨g, cap, cur, h1, h2, h3⟩ => ⟨g, cap, cur, h1, Nat.le_trans hb h2, h3⟩⟩
theorem row_anyG {w : World} {base : Nat} {e : TypeId} {size n : Nat} {v : Value} {xs : List Value} (h : w.ownsRow base e size v n xs) : ∃ A c, v = .slice A n c ∧ n ≤ c := by
  rcases h.2 with ⟨rfl, h0⟩ | ⟨g, cap, _, rfl, _, _, h2, _⟩
  · subst h0; exact ⟨none, 0, rfl, Nat.le_refl _⟩
  · exact ⟨_, cap, rfl, h2⟩
/-- the variable's block o holds the slice v, whose row grows beyond B2 -/
structure Grw (e tv : TypeId) (sz : Nat) (w wr : World) (B2 o : Nat) (R : List (Nat × TypeId × Array Value)) (v : Value) (n : Nat) (xs : List Value) : Prop where
  own : Own w wr ((o, tv, #[v]) :: R)
  row : wr.ownsRow B2 e sz v n xs
  b2 : B2 ≤ wr.heap.size ∧ w.heap.size ≤ B2 ∧ w.heap.size ≤ o
  lt : o < B2 ∧ ∀ x ∈ R, x.1 < B2
  ty : e ≠ tv ∧ ∀ x ∈ R, e ≠ x.2.1
  ne : ∀ x ∈ R, x.1 ≠ o
section
variable {e tv : TypeId} {sz : Nat} {w wr w' : World} {B2 o : Nat} {R : List (Nat × TypeId × Array Value)} {v : Value} {n : Nat} {xs : List Value}
theorem Grw.to (h : Grw e tv sz w wr B2 o R v n xs) (hb : Below wr.heap.size wr w') : Grw e tv sz w w' B2 o R v n xs :=
  ⟨h.own.to hb, row_below h.row hb, ⟨Nat.le_trans h.b2.1 hb.size, h.b2.2⟩, h.lt, h.ty, h.ne⟩
theorem Grw.alloc (h : Grw e tv sz w wr B2 o R v n xs) (x : Obj) : Grw e tv sz w (wr.alloc x) B2 o R v n xs := h.to ((Below.refl _ _).alloc (Nat.le_refl _) x)
theorem Grw.drew (h : Grw e tv sz w wr B2 o R v n xs) : Grw e tv sz w wr.drew B2 o R v n xs := h.to ((Below.refl wr.heap.size wr).drew)
theorem Grw.grown (h : Grw e tv sz w wr B2 o R v n xs) (hg : wr.grownBy w' v.ownBlock) : Own w w' ((o, tv, #[v]) :: R) :=
  h.own.grown (row_monoG h.row h.b2.2.1) hg (by
    intro x hx
    rcases List.mem_cons.1 hx with rfl | hx
    · exact h.ty.1
    · exact h.ty.2 x hx)
/-- the slice is appended to, and stored in its block -/
theorem Grw.app {v4 : Value} {n4 : Nat} {xs4 : List Value} (h : Grw e tv sz w wr B2 o R v n xs) (hown : w'.ownsRow B2 e sz v4 n4 xs4) (hg : wr.grownBy w' v.ownBlock) : Grw e tv sz w (w'.setCell ⟨o, 0, none⟩ v4) B2 o R v4 n4 xs4 := by
  have Y := h.grown hg
  have hsz : w'.heap.size ≤ (w'.setCell ⟨o, 0, none⟩ v4).heap.size := by simp [World.setCell]
  refine ⟨?_, ?_, ⟨Nat.le_trans h.b2.1 (Nat.le_trans hg.size hsz), h.b2.2⟩, h.lt, h.ty, h.ne⟩
  · exact Y.set0 h.b2.2.2 h.ne 0 v4
  · exact row_set hown (Y.2 _ (List.mem_cons_self ..)) h.ty.1 0 v4
/-- what lay below the row's base, but for the variable's block, lies as it lay behind an append -/
theorem Grw.kept {v4 : Value} (h : Grw e tv sz w wr B2 o R v n xs) (hg : wr.grownBy w' v.ownBlock) {k : Nat} (hk : k < B2) (hne : k ≠ o) : (w'.setCell ⟨o, 0, none⟩ v4).heap[k]? = wr.heap[k]? := by
  have e1 : w'.heap[k]? = wr.heap[k]? := hg.block k (Nat.lt_of_lt_of_le hk h.b2.1) (fun e => by
    have := (h.row.lt k e.symm).1
    omega)
  exact (Below.heap_setCell w' ⟨o, 0, none⟩ v4 k hne).trans e1
/-- what is no cells lies as it lay behind an append -/
theorem Grw.others {v4 : Value} (h : Grw e tv sz w wr B2 o R v n xs) (hg : wr.grownBy w' v.ownBlock) : KeepsOthers wr (w'.setCell ⟨o, 0, none⟩ v4) :=
  (KeepsOthers.of_grownBy hg fun j x ej hj => by
    rcases h.row.2 with ⟨rfl, _⟩ | ⟨g, cap, cur, rfl, _, hgb, _⟩
    · simp [Value.ownBlock] at ej
    · obtain rfl : g = j := by simpa [Value.ownBlock] using ej
      rw [hgb] at hj; cases hj; rfl).trans (KeepsOthers.setCell _ _ _)
/-- one block of R is turned -/
theorem Grw.turnR {b : Nat} {t : TypeId} {cs cs' : Array Value} {R1 R2 : List (Nat × TypeId × Array Value)} (h : Grw e tv sz w wr B2 o (R1 ++ (b, t, cs) :: R2) v n xs) (hb : w.heap.size ≤ b) (hn : ∀ x ∈ R1 ++ R2, x.1 ≠ b) (i : Nat) (u : Value) (hcs : cs' = cs.setIfInBounds i u) :
    Grw e tv sz w (wr.setCell ⟨b, i, none⟩ u) B2 o (R1 ++ (b, t, cs') :: R2) v n xs := by
  subst hcs
  have hB : Blk wr b t cs := h.own.2 (b, t, cs) (by simp)
  have hbo : b ≠ o := h.ne (b, t, cs) (by simp)
  refine ⟨⟨below_set h.own.1 hb u, fun x hx => ?_⟩, row_set h.row hB (h.ty.2 (b, t, cs) (by simp)) i u, ⟨by have := h.b2.1; simp [World.setCell]; exact this, h.b2.2⟩, ⟨h.lt.1, fun x hx => ?_⟩, ⟨h.ty.1, fun x hx => ?_⟩, fun x hx => ?_⟩
  · rcases List.mem_cons.1 hx with rfl | hx
    · exact (h.own.2 _ (List.mem_cons_self ..)).off hbo.symm u
    · rcases List.mem_append.1 hx with hx | hx
      · exact (h.own.2 x (by simp [hx])).off (hn x (by simp [hx])) u
      · rcases List.mem_cons.1 hx with rfl | hx
        · exact hB.set_ i u
        · exact (h.own.2 x (by simp [hx])).off (hn x (by simp [hx])) u
  · rcases List.mem_append.1 hx with hx | hx
    · exact h.lt.2 x (by simp [hx])
    · rcases List.mem_cons.1 hx with rfl | hx
      · exact h.lt.2 (b, t, cs) (by simp)
      · exact h.lt.2 x (by simp [hx])
  · rcases List.mem_append.1 hx with hx | hx
    · exact h.ty.2 x (by simp [hx])
    · rcases List.mem_cons.1 hx with rfl | hx
      · exact h.ty.2 (b, t, cs) (by simp)
      · exact h.ty.2 x (by simp [hx])
  · rcases List.mem_append.1 hx with hx | hx
    · exact h.ne x (by simp [hx])
    · rcases List.mem_cons.1 hx with rfl | hx
      · exact h.ne (b, t, cs) (by simp)
      · exact h.ne x (by simp [hx])
/-- a block that holds no cells is turned, beyond the row's base -/
theorem Grw.turn {row : Option Nat} (h : Grw e tv sz w wr B2 o R v n xs) (hg : wr.grownBy w' row) (hr : ∀ r, row = some r → B2 ≤ r ∧ ∃ x : Obj, wr.heap[r]? = some x ∧ x.isCells = false) : Grw e tv sz w w' B2 o R v n xs := by
  have nb : ∀ (b : Nat) (t : TypeId) (cs : Array Value) (f : Nat × Nat), wr.heap[b]? = some (.cells cs t f) → w'.heap[b]? = some (.cells cs t f) := fun b t cs f hb =>
    (hg.block b (Array.getElem?_eq_some_iff.1 hb).1 (fun e => by
      obtain ⟨_, x, hx, hc⟩ := hr b e.symm
      rw [hb] at hx; cases hx; cases hc)).trans hb
  refine ⟨⟨h.own.1.grown hg h.own.1.size (fun k hk => Nat.le_trans h.b2.2.1 (hr k hk).1), fun x hx => nb _ _ _ _ (h.own.2 x hx)⟩, ?_, ⟨Nat.le_trans h.b2.1 hg.size, h.b2.2⟩, h.lt, h.ty, h.ne⟩
  refine h.row.kept hg ?_
  rcases h.row.2 with ⟨rfl, _⟩ | ⟨g, cap, cur, rfl, _, hgb, _⟩
  · exact .inl rfl
  · refine .inr fun e => ?_
    obtain ⟨_, x, hx, hc⟩ := hr g (by simpa [Value.ownBlock] using e.symm)
    rw [hgb] at hx; cases hx; cases hc
/-- a block that is not ours, below the row's base, is turned (a box of somebody else's) -/
theorem Grw.box {b : Nat} (h : Grw e tv sz w wr B2 o R v n xs) (hg : wr.grownBy w' (some b)) (hb : w.heap.size ≤ b) (hB : b < B2) (ho : b ≠ o) (hR : ∀ x ∈ R, x.1 ≠ b) : Grw e tv sz w w' B2 o R v n xs := by
  refine ⟨⟨h.own.1.grown hg h.own.1.size (fun k hk => by injection hk with hk; omega), fun x hx => ?_⟩, ?_, ⟨Nat.le_trans h.b2.1 hg.size, h.b2.2⟩, h.lt, h.ty, h.ne⟩
  · have hx' := h.own.2 x hx
    refine (hg.block x.1 hx'.lt (fun e => ?_)).trans hx'
    injection e with e
    rcases List.mem_cons.1 hx with rfl | hx
    · exact ho e.symm
    · exact hR x hx e
  · refine h.row.kept hg ?_
    rcases h.row.2 with ⟨rfl, _⟩ | ⟨g, cap, cur, rfl, hgB, _⟩
    · exact .inl rfl
    · refine .inr fun e => ?_
      have : g = b := by simpa [Value.ownBlock] using e
      omega
end
end Go.Proofs.YtaaadejamjbcbaaGreatDoor

namespace Go.Proofs.YtaaadejamjbcbaaGreatDoor
open Go Go.RowKit Go.Shelf

theorem row_formG {w : World} {base : Nat} {e : TypeId} {size n : Nat} {v : Value} {xs : List Value} (h : w.ownsRow base e size v n xs) (hn : 0 < n) : ∃ g c, v = .slice (some ⟨g, 0, none⟩) n c := by
  rcases h.2 with ⟨rfl, h0⟩ | ⟨g, cap, _, rfl, _⟩
  · omega
  · exact ⟨g, cap, rfl⟩
/-- append in a fence: the new slice written out -/
theorem wpListIn_append_formG {F : Fence} {n : Nat} {P : Program} (w : World) {ops : Array Oper} {rest : List Oper} {o : Oper} {a : Act} {Q : Exit → Act → World → Prop}
    (hg : o.guard = none) (s x : Operand) (t : TypeId) (hop : o.op = Op.call { callee := Callee.builtin Builtin.append, args := #[s, x], argTypes := #[t, t] })
    (base : Nat) (e : TypeId) (i : TypeInfo) (z : Value) (size bytes : Nat) (h1 : P.underlying t = some (.slice e)) (h2 : P.info? e = some i) (h3 : i.zero = some z) (h4 : i.size = size) (h5 : i.bytes = bytes) (h6 : z.cells.size = size) (h7 : 0 < size)
    (v : Value) (k : Nat) (xs : List Value) (hs : a.eval s = v) (hown : w.ownsRow base e size v k xs) (ad : Addr) (m c : Nat) (news : List Value) (hx : a.eval x = .slice (some ad) m c) (hn : news.length = m * size)
    (hc : ∀ j u, news[j]? = some u → w.cell? (ad.add j) = some u) (h1c : ∀ u ∈ news, u.oneCell' = true) (h0 : 0 < m) (b1 : k + m ≤ maxLen) (b2 : (k + m) * bytes ≤ 140737488355328) (b3 : base ≤ w.heap.size)
    (hK : ∀ g cap w', w'.ownsRow base e size (.slice (some ⟨g, 0, none⟩) (k + m) cap) (k + m) (xs ++ news) → w.grownBy w' v.ownBlock → wpListIn F n P ops Q rest (a.put o.dst (.slice (some ⟨g, 0, none⟩) (k + m) cap)) w') :
    wpListIn F n P ops Q (o :: rest) a w :=
  wpListIn_append_own w hg s x t hop base e i z size bytes h1 h2 h3 h4 h5 h6 h7 v k xs hs hown ad m c news hx hn hc h1c b1 b2 b3 (fun v' w' h g _ => by
    obtain ⟨g', c', rfl⟩ := row_formG h (by omega)
    exact hK _ _ _ h g)
theorem heap_new_atG {W : World} {o : Obj} {n : Nat} (h : W.heap.size = n) : (W.alloc o).heap[n]? = some o := by subst h; exact heap_alloc_new W o
theorem others_below {w w' : World} (h : Below w.heap.size w w') : KeepsOthers w w' := ⟨h.size, fun k _ hk _ => (h.block k (Array.getElem?_eq_some_iff.1 hk).1).trans hk⟩
theorem box_below {w w' : World} (h : Below w.heap.size w w') {k : Nat} (hk : k < w.heap.size) : w'.heap[k]? = w.heap[k]? := h.block k hk
/-- the three results are stored: a slice, a struct of two cells, a number -/
theorem Grw.three {e tv tp te tr : TypeId} {sz : Nat} {w wr : World} {B2 o ab eb pb rb : Nat} {v : Value} {n : Nat} {xs : List Value} {ta : TypeId} {ca : Array Value} {e0 p0 p1 r0 : Value}
    (h : Grw e tv sz w wr B2 o [(ab, ta, ca), (eb, te, #[e0]), (pb, tp, #[p0, p1]), (rb, tr, #[r0])] v n xs) (h1 : w.heap.size ≤ rb ∧ w.heap.size ≤ pb ∧ w.heap.size ≤ eb) (h2 : ab ≠ eb ∧ ab ≠ pb ∧ ab ≠ rb ∧ eb ≠ pb ∧ eb ≠ rb ∧ pb ≠ rb) (r l c er : Value) :
    Grw e tv sz w ((((wr.setCell ⟨rb, 0, none⟩ r).setCell ⟨pb, 0, none⟩ l).setCell ⟨pb, 1, none⟩ c).setCell ⟨eb, 0, none⟩ er) B2 o [(ab, ta, ca), (eb, te, #[er]), (pb, tp, #[l, c]), (rb, tr, #[r])] v n xs := by
  obtain ⟨a1, a2, a3⟩ := h1
  obtain ⟨b1, b2, b3, b4, b5, b6⟩ := h2
  have k1 := Grw.turnR (R1 := [(ab, ta, ca), (eb, te, #[e0]), (pb, tp, #[p0, p1])]) (R2 := []) h a1 (fun x hx => by
    simp only [List.append_nil, List.mem_cons, List.not_mem_nil, or_false] at hx
    rcases hx with rfl | rfl | rfl
    all_goals dsimp only
    all_goals assumption) 0 r (cs' := #[r]) rfl
  have k2 := Grw.turnR (R1 := [(ab, ta, ca), (eb, te, #[e0])]) (R2 := [(rb, tr, #[r])]) k1 a2 (fun x hx => by
    simp only [List.cons_append, List.nil_append, List.mem_cons, List.not_mem_nil, or_false] at hx
    rcases hx with rfl | rfl | rfl
    all_goals dsimp only
    all_goals first | assumption | exact Ne.symm (by assumption)) 0 l (cs' := #[l, p1]) rfl
  have k3 := Grw.turnR (R1 := [(ab, ta, ca), (eb, te, #[e0])]) (R2 := [(rb, tr, #[r])]) k2 a2 (fun x hx => by
    simp only [List.cons_append, List.nil_append, List.mem_cons, List.not_mem_nil, or_false] at hx
    rcases hx with rfl | rfl | rfl
    all_goals dsimp only
    all_goals first | assumption | exact Ne.symm (by assumption)) 1 c (cs' := #[l, c]) rfl
  exact Grw.turnR (R1 := [(ab, ta, ca)]) (R2 := [(pb, tp, #[l, c]), (rb, tr, #[r])]) k3 a3 (fun x hx => by
    simp only [List.cons_append, List.nil_append, List.mem_cons, List.not_mem_nil, or_false] at hx
    rcases hx with rfl | rfl | rfl
    all_goals dsimp only
    all_goals first | assumption | exact Ne.symm (by assumption)) 0 er (cs' := #[er]) rfl
theorem others_four (w : World) (a b c d : Addr) (r l k e : Value) : KeepsOthers w ((((w.setCell a r).setCell b l).setCell c k).setCell d e) :=
  (((KeepsOthers.setCell _ _ _).trans (KeepsOthers.setCell _ _ _)).trans (KeepsOthers.setCell _ _ _)).trans (KeepsOthers.setCell _ _ _)
/-- the rounds' deferred calls are taken -/
theorem Grw.taken {e tv : TypeId} {sz : Nat} {w wr : World} {B2 o D : Nat} {R : List (Nat × TypeId × Array Value)} {v : Value} {n : Nat} {xs : List Value} (h : Grw e tv sz w wr B2 o R v n xs) (hD : B2 ≤ D) (hK : wr.heap[D]? = some (.deferred (some []))) :
    Grw e tv sz w (wr.putObj D (.deferred none)) B2 o R v n xs :=
  h.turn (grownBy_putObj' wr D (.deferred none)) (fun r hr => by cases hr; exact ⟨hD, _, hK, rfl⟩)
end Go.Proofs.YtaaadejamjbcbaaGreatDoor

namespace Go.Proofs.YtaaadejamjbcbaaGreatDoor
open Go Go.RowKit

abbrev Cls.cs (c : Cls) : List Value := [.string c.nm, .int .i64 c.se, .int .i64 c.we, .int .i64 c.ro, .int .i64 c.dr]
def flatC (l : List Cls) : List Value := l.flatMap Cls.cs
theorem flatC_append (a b : List Cls) : flatC (a ++ b) = flatC a ++ flatC b := by simp [flatC]
theorem flatC_len (l : List Cls) : (flatC l).length = l.length * 5 := by
  induction l with
  | nil => rfl
  | cons c l ih => simp only [flatC, List.flatMap_cons, List.length_append, List.length_cons] at ih ⊢; rw [ih]; simp; omega
theorem flatC_at : ∀ (l : List Cls) (i : Nat) (h : i < l.length), (flatC l)[i * 5]? = some (.string l[i].nm) ∧ (flatC l)[i * 5 + 1]? = some (.int .i64 l[i].se) ∧ (flatC l)[i * 5 + 2]? = some (.int .i64 l[i].we) ∧ (flatC l)[i * 5 + 3]? = some (.int .i64 l[i].ro) ∧ (flatC l)[i * 5 + 4]? = some (.int .i64 l[i].dr)
  | [], i, h => absurd h (by simp)
  | c :: l, 0, _ => ⟨rfl, rfl, rfl, rfl, rfl⟩
  | c :: l, i + 1, h => by
    have ih := flatC_at l i (by simpa using h)
    have e : flatC (c :: l) = c.cs ++ flatC l := rfl
    have k : ∀ j, (flatC (c :: l))[(i + 1) * 5 + j]? = (flatC l)[i * 5 + j]? := fun j => by
      rw [e, List.getElem?_append_right (by simp; omega)]
      congr 1
      simp; omega
    exact ⟨(k 0).trans ih.1, (k 1).trans ih.2.1, (k 2).trans ih.2.2.1, (k 3).trans ih.2.2.2.1, (k 4).trans ih.2.2.2.2⟩
theorem ClsSl.nil (w : World) (A : Option Addr) : ClsSl w A [] := ⟨⟨by simp, fun i h => by simp at h⟩, fun h => by simp at h⟩
theorem ClsSl.of_row {w : World} {base : Nat} {e : TypeId} {v : Value} {n : Nat} {l : List Cls} (h : w.ownsRow base e 5 v n (flatC l)) (hb : l.length ≤ maxLen) (hm : ∀ i (h : i < l.length), l[i].nm.size ≤ maxLen) : ∃ A c, v = .slice A l.length c ∧ ClsSl w A l ∧ l.length ≤ c := by
  have hn : l.length = n := by have := h.1; rw [flatC_len] at this; omega
  rcases h.2 with ⟨rfl, h0⟩ | ⟨g, cap, cur, rfl, hg, hcell, hnc, _, hsz, htake⟩
  · rw [h0] at hn
    have : l = [] := List.eq_nil_of_length_eq_zero hn
    subst this
    exact ⟨none, 0, rfl, ClsSl.nil w none, by simp⟩
  · subst hn
    refine ⟨some ⟨g, 0, none⟩, cap, rfl, ⟨⟨hb, hm⟩, fun _ => ⟨g, 0, rfl, (Array.getElem?_eq_some_iff.1 hcell).1, fun i hi => ?_⟩⟩, hnc⟩
    have k := fun j u (hu : (flatC l)[j]? = some u) => (show w.cell? ⟨g, 0 + j, none⟩ = some u by
      have hc := h.cells (g := g) rfl j u hu
      have e : (⟨g, 0, none⟩ : Addr).add j = ⟨g, 0 + j, none⟩ := by unfold Addr.add; split <;> simp_all
      rw [e] at hc
      exact hc)
    obtain ⟨a0, a1, a2, a3, a4⟩ := flatC_at l i hi
    exact ⟨k _ _ a0, k _ _ a1, k _ _ a2, k _ _ a3, k _ _ a4⟩
theorem cls_info : (Tryz.prog.info? 57).map (fun i => (i.zero, i.size, i.bytes)) = some (some (.agg #[.string ⟨#[]⟩, .int .i64 0, .int .i64 0, .int .i64 0, .int .i64 0]), 5, 48) := by kernel_rfl
end Go.Proofs.YtaaadejamjbcbaaGreatDoor
