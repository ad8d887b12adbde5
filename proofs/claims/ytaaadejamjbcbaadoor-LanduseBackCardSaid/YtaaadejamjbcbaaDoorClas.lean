/- The program's class of a line: what it returns; nothing that was there is turned. -/
import Derived.Test.YtaaadejamjbcbaaDoorWrd
import Derived.Test.YtaaadejamjbcbaaDoorNum
import Derived.Test.YtaaadejamjbcbaaDoorMkRow
namespace Go.Proofs.YtaaadejamjbcbaaDoor
open Go Go.RowKit

def clZ : Cls := ⟨⟨#[]⟩, 0, 0, 0, 0⟩
def clR (l : List UInt8) : Cls := if clB l then clC l else clZ
def ClPost (l : List UInt8) (w : World) (e : Ending) (w' : World) : Prop := e = .returned (.tuple #[(clR l).val, .bool (clB l)]) ∧ Below w.heap.size w w'
theorem ClPost.no {l : List UInt8} {w w' : World} (hb : Below w.heap.size w w') (h : clB l = false) : ClPost l w (.returned (.tuple #[.agg #[.string ⟨#[]⟩, .int .i64 0, .int .i64 0, .int .i64 0, .int .i64 0], .bool false])) w' := by
  unfold ClPost clR
  rw [h]
  exact ⟨rfl, hb⟩
theorem ClPost.yes {l : List UInt8} {a b c d e : List UInt8} {w w' : World} (hb : Below w.heap.size w w') (h : pts 32 l = [a, b, c, d, e]) (h1 : nameB a = true) (h2 : nuB b = true ∧ nuB c = true ∧ nuB d = true ∧ nuB e = true) :
    ClPost l w (.returned (.tuple #[.agg #[strV a, .int .i64 (atV b), .int .i64 (atV c), .int .i64 (atV d), .int .i64 (atV e)], .bool true])) w' := by
  obtain ⟨n2, n3, n4, n5⟩ := h2
  have k := fun x (h : nuB x = true) => (num_same x).2 (by rw [← (num_same x).1]; exact h)
  have hB : clB l = true := by
    unfold clB
    rw [h]
    simp [cnvB, h1, ← (num_same _).1, n2, n3, n4, n5]
  unfold ClPost clR
  rw [hB, k b n2, k c n3, k d n4, k e n5]
  refine ⟨?_, hb⟩
  unfold clC
  rw [h]
  rfl
theorem cl_len {l : List UInt8} (h : (pts 32 l).length ≠ 5) : clB l = false := by
  unfold clB
  match hp : pts 32 l with
  | [] => rfl
  | [_] => rfl
  | [_, _] => rfl
  | [_, _, _] => rfl
  | [_, _, _, _] => rfl
  | [_, _, _, _, _] => rw [hp] at h; exact absurd rfl h
  | _ :: _ :: _ :: _ :: _ :: _ :: _ => rfl
theorem cl_name {l : List UInt8} {a b c d e : List UInt8} (h : pts 32 l = [a, b, c, d, e]) (h1 : nameB a = false) : clB l = false := by
  unfold clB; rw [h]; simp [cnvB, h1]
theorem cl_num {l : List UInt8} {a b c d e : List UInt8} (h : pts 32 l = [a, b, c, d, e]) {k : Nat} (hk : k < 4) (h1 : nuB ([b, c, d, e].getD k []) = false) : clB l = false := by
  unfold clB
  rw [h]
  rw [(num_same _).1] at h1
  match k, hk with
  | 0, _ => simp at h1; simp [cnvB, h1]
  | 1, _ => simp at h1; simp [cnvB, h1]
  | 2, _ => simp at h1; simp [cnvB, h1]
  | 3, _ => simp at h1; simp [cnvB, h1]
theorem five {α : Type} {l : List α} (h : l.length = 5) : ∃ a b c d e, l = [a, b, c, d, e] := by
  match l, h with
  | [a, b, c, d, e], _ => exact ⟨a, b, c, d, e, rfl⟩
def arrF (u : List (List UInt8)) (k j : Nat) : Value := if j < k then .int .i64 (atV (u.getD j [])) else .int .i64 0
theorem arrF_set (u : List (List UInt8)) (k n : Nat) : (mkRow n (arrF u k)).setIfInBounds k (.int .i64 (atV (u.getD k []))) = mkRow n (arrF u (k + 1)) := by
  rw [mkRow_set]
  refine mkRow_congr fun i _ => ?_
  unfold arrF
  by_cases h : i = k
  · subst h; rw [if_pos rfl, if_pos (by omega)]
  · rw [if_neg h]
    by_cases h2 : i < k
    · rw [if_pos h2, if_pos (by omega)]
    · rw [if_neg h2, if_neg (by omega)]
theorem arrF_zero (u : List (List UInt8)) : mkRow 4 (arrF u 0) = #[.int .i64 0, .int .i64 0, .int .i64 0, .int .i64 0] := rfl
set_option maxRecDepth 100000 in
set_option maxHeartbeats 4000000 in
theorem class_any (l : List UInt8) (w : World) (hl : l.length ≤ 1000000) (ht : TxtW w) : Calls Tryd.prog 43 #[strV l] w (ClPost l w) := by
  have X := (Own.start w).alloc #[.string ⟨#[]⟩, .int .i64 0, .int .i64 0, .int .i64 0, .int .i64 0] 54
  have HT := hide ht
  have SP := hide (fun W hW => split_any l 32 W (by omega) hW)
  have PL := hide (fun p (hp : p ∈ pts 32 l) => pts_len p hp)
  have CL := hide (fun h => cl_len (l := l) h)
  have CN := hide (fun a b c d e h h1 => cl_name (l := l) (a := a) (b := b) (c := c) (d := d) (e := e) h h1)
  have CM := hide (fun a b c d e h k hk h1 => cl_num (l := l) (a := a) (b := b) (c := c) (d := d) (e := e) h (k := k) hk h1)
  have CY := hide (fun a b c d e w' hb h h1 h2 => ClPost.yes (l := l) (a := a) (b := b) (c := c) (d := d) (e := e) (w := w) (w' := w') hb h h1 h2)
  clear ht
  have hr := X.r1
  by_cases h5 : (pts 32 l).length = 5
  case neg =>
    have E := hide (CL.out h5)
    have q1 : ((((pts 32 l).length : Nat) : Int) == 5) = false := by simp; omega
    have q2 : ((((pts 32 l).length : Nat) : Int) != 5) = true := by simp; omega
    clear CL CN CM CY h5
    generalize pts 32 l = ws at *
    go_enter Tryd.func43, Tryd.ntmps43
    go_wp2_with fail
    refine (SP.out _ (HT.out.below X.1)).mono ?_
    rintro e w1 ⟨hb, A, c, rfl, hsl, _⟩
    replace X := X.to hb
    clear hb hr hsl
    have hr := X.r1
    go_wp2
    exact bodyPost_ret (v := .tuple #[.agg #[.string ⟨#[]⟩, .int .i64 0, .int .i64 0, .int .i64 0, .int .i64 0], .bool false]) (by simp [results, Tryd.results43, hr, go_sem]) rfl (ClPost.no (by have HX := X.1; have hz := HX.size; go_grown) E.out)
  obtain ⟨a, b, c, d, e, hws⟩ := five h5
  have HW := hide hws
  rw [hws] at SP PL h5
  have la := PL.out a (by simp)
  have IN := hide (fun W => isname_any ⟨a.toArray⟩ W (by show a.length ≤ maxLen; unfold maxLen; omega))
  have LU : Hid (∀ k, k < 4 → ([b, c, d, e].getD k []).length ≤ 1000000) := hide fun k hk => by
    have : ([b, c, d, e].getD k []) ∈ [a, b, c, d, e] := by
      match k, hk with
      | 0, _ => simp
      | 1, _ => simp
      | 2, _ => simp
      | 3, _ => simp
    have := PL.out _ this
    omega
  rw [show (⟨a.toArray⟩ : ByteArray).data.toList = a by simp] at IN
  clear PL hws CL h5
  rcases Bool.eq_false_or_eq_true (nameB a) with hn | hn
  case inr =>
    have E := hide (CN.out a b c d e HW.out hn)
    rw [hn] at IN
    clear CN CM CY LU
    go_enter Tryd.func43, Tryd.ntmps43
    go_wp2_with fail
    refine (SP.out _ (HT.out.below X.1)).mono ?_
    rintro e' w1 ⟨hb, A, cp, rfl, hsl, hcp⟩
    obtain ⟨bb, off, rfl, hbl, hat⟩ := hsl.2 (by simp)
    have c0 : w1.cell? ⟨bb, off + 0, none⟩ = some (strV a) := hat 0 (by simp)
    rw [Nat.add_zero] at c0
    replace X := X.to hb
    clear hb hr hsl hat
    have hr := X.r1
    go_wp2_with fail
    refine (IN.out _).mono ?_
    rintro e' w2 ⟨rfl, rfl⟩
    go_wp2
    exact bodyPost_ret (v := .tuple #[.agg #[.string ⟨#[]⟩, .int .i64 0, .int .i64 0, .int .i64 0, .int .i64 0], .bool false]) (by simp [results, Tryd.results43, hr, go_sem]) rfl (ClPost.no (by have HX := X.1; have hz := HX.size; go_grown) E.out)
  have HN := hide hn
  rw [hn] at IN
  have Z4 := arrF_zero [b, c, d, e]
  clear CN hn
  go_enter Tryd.func43, Tryd.ntmps43
  go_wp2_with fail
  refine (SP.out _ (HT.out.below X.1)).mono ?_
  rintro e' w1 ⟨hb, A, cp, rfl, hsl, hcp⟩
  obtain ⟨bb, off, rfl, hbl, hat⟩ := hsl.2 (by simp)
  have c0 : w1.cell? ⟨bb, off + 0, none⟩ = some (strV a) := hat 0 (by simp)
  rw [Nat.add_zero] at c0
  have HU : Hid (∀ k, k < 4 → w1.cell? ⟨bb, off + (k + 1), none⟩ = some (strV ([b, c, d, e].getD k []))) := hide fun k hk => by
    have := hat (k + 1) (by simp; omega)
    rw [this]
    match k, hk with
    | 0, _ => rfl
    | 1, _ => rfl
    | 2, _ => rfl
    | 3, _ => rfl
  replace X := (X.to hb).alloc (mkRow 4 (arrF [b, c, d, e] 0)) 93
  rw [Z4] at X
  have lw : w.heap.size < w1.heap.size := Nat.lt_of_lt_of_le (by simp) hb.size
  clear hb hr hsl hat SP
  have hr := X.r2
  have c0' : (w1.alloc (.cells #[.int .i64 0, .int .i64 0, .int .i64 0, .int .i64 0] 93)).cell? ⟨bb, off, none⟩ = some (strV a) := (World.cell?_alloc_lt w1 _ ⟨bb, off, none⟩ hbl).trans c0
  go_wp2_with fail
  refine (IN.out _).mono ?_
  rintro e' w2 ⟨rfl, rfl⟩
  go_wp2
  rw [← Z4] at X
  have XH := hide X
  clear X hr c0'
  go_loopw [22] (fun v22 wr => ∃ k : Nat, k ≤ 4 ∧ v22 = .int .i64 (k : Int) ∧ Hid (∀ j, j < k → nuB ([b, c, d, e].getD j []) = true) ∧ Hid (Below w1.heap.size w1 wr) ∧
    Hid (Own w wr [(w1.heap.size, 93, mkRow 4 (arrF [b, c, d, e] k)), (w.heap.size, 54, #[.string ⟨#[]⟩, .int .i64 0, .int .i64 0, .int .i64 0, .int .i64 0])])) (fun v22 _ => 4 - (intOf v22).toNat)
  case atStart => exact ⟨0, by omega, rfl, hide (fun j hj => absurd hj (by omega)), hide ((Below.refl _ _).alloc (Nat.le_refl _) _), XH⟩
  case round =>
    obtain ⟨k, hk, rfl, HJ, HB, Y⟩ := hrel
    by_cases hlt : k < 4
    · have ck := (HB.out.cell (p := ⟨bb, off + (k + 1), none⟩) hbl).trans (HU.out k hlt)
      have NU := hide (fun W hW => number_any ([b, c, d, e].getD k []) W (by have := LU.out k hlt; omega) hW)
      have cz := (Y.out.r1.1 k).trans (mkRow_at 4 (arrF [b, c, d, e] k) hlt)
      rw [show arrF [b, c, d, e] k k = .int .i64 0 by simp [arrF]] at cz
      have fz := Y.out.r1.2.1 k
      have EM := hide (fun h => CM.out a b c d e HW.out k hlt h)
      have SS : Hid (∀ W, Own w W [(w1.heap.size, 93, mkRow 4 (arrF [b, c, d, e] k)), (w.heap.size, 54, #[.string ⟨#[]⟩, .int .i64 0, .int .i64 0, .int .i64 0, .int .i64 0])] →
          Own w (W.setCell ⟨w1.heap.size, k, none⟩ (.int .i64 (atV ([b, c, d, e].getD k [])))) [(w1.heap.size, 93, mkRow 4 (arrF [b, c, d, e] (k + 1))), (w.heap.size, 54, #[.string ⟨#[]⟩, .int .i64 0, .int .i64 0, .int .i64 0, .int .i64 0])]) := hide fun W h => by
        have := h.set0 (by omega) (by intro y hy; simp at hy; subst hy; show w.heap.size ≠ _; omega) k (.int .i64 (atV ([b, c, d, e].getD k [])))
        rw [arrF_set] at this
        exact this
      have i1 := IntWalk.i64_in ((k : Int) + 1) (by omega)
      have HX := hide (fun h (j : Nat) (hj : j < k + 1) => (by
        by_cases e : j = k
        · subst e; exact h
        · exact HJ.out j (by omega) : nuB ([b, c, d, e].getD j []) = true))
      have hr := Y.out.r2
      have hlw := Y.out.r1.2.2
      rcases Bool.eq_false_or_eq_true (nuB ([b, c, d, e].getD k [])) with hu | hu
      · have HX2 := hide (HX.out hu)
        rw [hu] at NU
        clear hu HX EM HJ
        generalize [b, c, d, e].getD k [] = x at *
        go_wp2_with fail
        refine (NU.out _ (HT.out.below Y.out.1)).mono ?_
        rintro e' w3 ⟨rfl, hb⟩
        have Y3 := hide (SS.out _ (Y.out.to hb))
        have HB3 : Hid (Below w1.heap.size w1 w3) := hide (below_via HB.out HB.out.size hb)
        have cz3 := (keeps hb _ _ _ cz)
        have fz3 : w3.frozen? ⟨w1.heap.size, k, none⟩ = false := (hb.frozen (p := ⟨w1.heap.size, k, none⟩) hlw).trans fz
        clear hb hr cz fz ck NU SS
        go_wp2
        go_roundw
        case rel => exact ⟨k + 1, by omega, by go_num, HX2, hide (below_set HB3.out (Nat.le_refl _) _), Y3⟩
        case measure => simp [intOf]; omega
      · have E := hide (EM.out hu)
        rw [hu] at NU
        clear hu HX EM HJ SS
        generalize [b, c, d, e].getD k [] = x at *
        go_wp2_with fail
        refine (NU.out _ (HT.out.below Y.out.1)).mono ?_
        rintro e' w3 ⟨rfl, hb⟩
        have X3 := Y.out.to hb
        clear hb hr cz fz ck NU
        have hr := X3.r2
        go_wp2
        exact bodyPost_ret (v := .tuple #[.agg #[.string ⟨#[]⟩, .int .i64 0, .int .i64 0, .int .i64 0, .int .i64 0], .bool false]) (by simp [results, Tryd.results43, hr, go_sem]) rfl (ClPost.no (by have HX := X3.1; have hz := HX.size; go_grown) E.out)
    · obtain rfl : k = 4 := by omega
      have ca := (HB.out.cell (p := ⟨bb, off, none⟩) hbl).trans c0
      have r1 : ∀ i, i < 4 → wr.cell? ⟨w1.heap.size, i, none⟩ = some (arrF [b, c, d, e] 4 i) := fun i hi => (Y.out.r1.1 i).trans (mkRow_at 4 _ hi)
      have k0 := r1 0 (by omega)
      have k1 := r1 1 (by omega)
      have k2 := r1 2 (by omega)
      have k3 := r1 3 (by omega)
      have u0 : arrF [b, c, d, e] 4 0 = .int .i64 (atV b) := rfl
      have u1 : arrF [b, c, d, e] 4 1 = .int .i64 (atV c) := rfl
      have u2 : arrF [b, c, d, e] 4 2 = .int .i64 (atV d) := rfl
      have u3 : arrF [b, c, d, e] 4 3 = .int .i64 (atV e) := rfl
      rw [u0] at k0
      rw [u1] at k1
      rw [u2] at k2
      rw [u3] at k3
      have NN := HJ.out
      have FY := hide (fun w' hb => CY.out a b c d e w' hb HW.out HN.out ⟨NN 0 (by omega), NN 1 (by omega), NN 2 (by omega), NN 3 (by omega)⟩)
      have hr := Y.out.tail.r1
      have hlw := Y.out.r1.2.2
      have BB := Y.out.1
      clear r1 u0 u1 u2 u3 NN HJ HU LU CM CY IN HT Y
      generalize atV b = vb at *
      generalize atV c = vc at *
      generalize atV d = vd at *
      generalize atV e = ve at *
      go_wp2
      go_region
      go_wp2
      exact bodyPost_ret (v := .tuple #[.agg #[strV a, .int .i64 vb, .int .i64 vc, .int .i64 vd, .int .i64 ve], .bool true]) (by simp [results, Tryd.results43, hr, go_sem]) rfl (FY.out _ (by have hz := BB.size; go_grown))
end Go.Proofs.YtaaadejamjbcbaaDoor
