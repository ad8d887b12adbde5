/- Parts of one proof, joined: The program's class of a line: what it returns; nothing that was there is turned. A row in the making that a variable's block holds, beside blocks of the call's own and blocks that are kept. In a fence: append with the new slice written out; what a callee keeps; the last steps of a range over a function. Rows of classes of the call's own, read as slices. The program's Parse of a list of classes: what it returns; nothing that was there is turned. -/
import Derived.Test.YtaaadejamjbcbaaGreatDoorPkLanduseAreas17
import Derived.Test.YtaaadejamjbcbaaGreatDoorPkLanduseAreas18
import Derived.Test.YtaaadejamjbcbaaGreatDoorPkLanduseAreas2
import Derived.Deep.AppendLies
import Derived.RangeFuncOwn
import Derived.RangeFuncWrites
namespace Go.Proofs.YtaaadejamjbcbaaGreatDoor
open Go Go.RowKit

def clZ : Cls := ⟨⟨#[]⟩, 0, 0, 0, 0⟩
def clR (l : List UInt8) : Cls := if clB l then clC l else clZ
def ClPost (l : List UInt8) (w : World) (e : Ending) (w' : World) : Prop := e = .returned (.tuple #[(clR l).val, .bool (clB l)]) ∧ Below w.heap.size w w'
theorem ClPost.no {l : List UInt8} {w w' : World} (hb : Below w.heap.size w w') (h : clB l = false) : ClPost l w (.returned (.tuple #[.agg #[.string ⟨#[]⟩, .int .i64 0, .int .i64 0, .int .i64 0, .int .i64 0], .bool false])) w' := by
  unfold ClPost clR
  rw [h]
  exact ⟨rfl, hb⟩
theorem ClPost.yes {l : List UInt8} {a b c d e : List UInt8} {w w' : World} (hb : Below w.heap.size w w') (h : pts 32 l = [a, b, c, d, e]) (h1 : nameB a = true) (h2 : nuB b = true ∧ nuB c = true ∧ nuB d = true ∧ nuB e = true) :
    ClPost l w (.returned (.tuple #[.agg #[strV a, .int .i64 (atV b), .int .i64 (atV c), .int .i64 (atV d), .int .i64 (atV e)], .bool true])) w' := by
  obtain ⟨n2, n3, n4, n5⟩ := h2
  have k := fun x (h : nuB x = true) => (num_same x).2 (by rw [← (num_same x).1]; exact h)
  have hB : clB l = true := by
    unfold clB
    rw [h]
    simp [cnvB, h1, ← (num_same _).1, n2, n3, n4, n5]
  unfold ClPost clR
  rw [hB, k b n2, k c n3, k d n4, k e n5]
  refine ⟨?_, hb⟩
  unfold clC
  rw [h]
  rfl
theorem cl_len {l : List UInt8} (h : (pts 32 l).length ≠ 5) : clB l = false := by
  unfold clB
  match hp : pts 32 l with
  | [] => rfl
  | [_] => rfl
  | [_, _] => rfl
  | [_, _, _] => rfl
  | [_, _, _, _] => rfl
  | [_, _, _, _, _] => rw [hp] at h; exact absurd rfl h
  | _ :: _ :: _ :: _ :: _ :: _ :: _ => rfl
theorem cl_name {l : List UInt8} {a b c d e : List UInt8} (h : pts 32 l = [a, b, c, d, e]) (h1 : nameB a = false) : clB l = false := by
  unfold clB; rw [h]; simp [cnvB, h1]
theorem cl_num {l : List UInt8} {a b c d e : List UInt8} (h : pts 32 l = [a, b, c, d, e]) {k : Nat} (hk : k < 4) (h1 : nuB ([b, c, d, e].getD k []) = false) : clB l = false := by
  unfold clB
  rw [h]
  rw [(num_same _).1] at h1
  match k, hk with
  | 0, _ => simp at h1; simp [cnvB, h1]
  | 1, _ => simp at h1; simp [cnvB, h1]
  | 2, _ => simp at h1; simp [cnvB, h1]
  | 3, _ => simp at h1; simp [cnvB, h1]
theorem five {α : Type} {l : List α} (h : l.length = 5) : ∃ a b c d e, l = [a, b, c, d, e] := by
  match l, h with
  | [a, b, c, d, e], _ => exact ⟨a, b, c, d, e, rfl⟩
def arrF (u : List (List UInt8)) (k j : Nat) : Value := if j < k then .int .i64 (atV (u.getD j [])) else .int .i64 0
theorem arrF_set (u : List (List UInt8)) (k n : Nat) : (mkRow n (arrF u k)).setIfInBounds k (.int .i64 (atV (u.getD k []))) = mkRow n (arrF u (k + 1)) := by
  rw [mkRow_set]
  refine mkRow_congr fun i _ => ?_
  unfold arrF
  by_cases h : i = k
  · subst h; rw [if_pos rfl, if_pos (by omega)]
  · rw [if_neg h]
    by_cases h2 : i < k
    · rw [if_pos h2, if_pos (by omega)]
    · rw [if_neg h2, if_neg (by omega)]
theorem arrF_zero (u : List (List UInt8)) : mkRow 4 (arrF u 0) = #[.int .i64 0, .int .i64 0, .int .i64 0, .int .i64 0] := rfl
set_option maxRecDepth 100000 in
set_option maxHeartbeats 4000000 in
theorem class_any (l : List UInt8) (w : World) (hl : l.length ≤ 1000000) (ht : TxtW w) : Calls Tryz.prog 39 #[strV l] w (ClPost l w) := by
  have X := (Own.start w).alloc #[.string ⟨#[]⟩, .int .i64 0, .int .i64 0, .int .i64 0, .int .i64 0] 57
  have HT := hide ht
  have SP := hide (fun W hW => split_any l 32 W (by omega) hW)
  have PL := hide (fun p (hp : p ∈ pts 32 l) => pts_len p hp)
  have CL := hide (fun h => cl_len (l := l) h)
  have CN := hide (fun a b c d e h h1 => cl_name (l := l) (a := a) (b := b) (c := c) (d := d) (e := e) h h1)
  have CM := hide (fun a b c d e h k hk h1 => cl_num (l := l) (a := a) (b := b) (c := c) (d := d) (e := e) h (k := k) hk h1)
  have CY := hide (fun a b c d e w' hb h h1 h2 => ClPost.yes (l := l) (a := a) (b := b) (c := c) (d := d) (e := e) (w := w) (w' := w') hb h h1 h2)
  clear ht
  have hr := X.r1
  by_cases h5 : (pts 32 l).length = 5
  case neg =>
    have E := hide (CL.out h5)
    have q1 : ((((pts 32 l).length : Nat) : Int) == 5) = false := by simp; omega
    have q2 : ((((pts 32 l).length : Nat) : Int) != 5) = true := by simp; omega
    clear CL CN CM CY h5
    generalize pts 32 l = ws at *
    go_enter Tryz.func39, Tryz.ntmps39
    go_wp2_with fail
    refine (SP.out _ (HT.out.below X.1)).mono ?_
    rintro e w1 ⟨hb, A, c, rfl, hsl, _⟩
    replace X := X.to hb
    clear hb hr hsl
    have hr := X.r1
    go_wp2
    exact bodyPost_ret (v := .tuple #[.agg #[.string ⟨#[]⟩, .int .i64 0, .int .i64 0, .int .i64 0, .int .i64 0], .bool false]) (by simp [results, Tryz.results39, hr, go_sem]) rfl (ClPost.no (by have HX := X.1; have hz := HX.size; go_grown) E.out)
  obtain ⟨a, b, c, d, e, hws⟩ := five h5
  have HW := hide hws
  rw [hws] at SP PL h5
  have la := PL.out a (by simp)
  have IN := hide (fun W => isname_any ⟨a.toArray⟩ W (by show a.length ≤ maxLen; unfold maxLen; omega))
  have LU : Hid (∀ k, k < 4 → ([b, c, d, e].getD k []).length ≤ 1000000) := hide fun k hk => by
    have : ([b, c, d, e].getD k []) ∈ [a, b, c, d, e] := by
      match k, hk with
      | 0, _ => simp
      | 1, _ => simp
      | 2, _ => simp
      | 3, _ => simp
    have := PL.out _ this
    omega
  rw [show (⟨a.toArray⟩ : ByteArray).data.toList = a by simp] at IN
  clear PL hws CL h5
  rcases Bool.eq_false_or_eq_true (nameB a) with hn | hn
  case inr =>
    have E := hide (CN.out a b c d e HW.out hn)
    rw [hn] at IN
    clear CN CM CY LU
    go_enter Tryz.func39, Tryz.ntmps39
    go_wp2_with fail
    refine (SP.out _ (HT.out.below X.1)).mono ?_
    rintro e' w1 ⟨hb, A, cp, rfl, hsl, hcp⟩
    obtain ⟨bb, off, rfl, hbl, hat⟩ := hsl.2 (by simp)
    have c0 : w1.cell? ⟨bb, off + 0, none⟩ = some (strV a) := hat 0 (by simp)
    rw [Nat.add_zero] at c0
    replace X := X.to hb
    clear hb hr hsl hat
    have hr := X.r1
    go_wp2_with fail
    refine (IN.out _).mono ?_
    rintro e' w2 ⟨rfl, rfl⟩
    go_wp2
    exact bodyPost_ret (v := .tuple #[.agg #[.string ⟨#[]⟩, .int .i64 0, .int .i64 0, .int .i64 0, .int .i64 0], .bool false]) (by simp [results, Tryz.results39, hr, go_sem]) rfl (ClPost.no (by have HX := X.1; have hz := HX.size; go_grown) E.out)
  have HN := hide hn
  rw [hn] at IN
  have Z4 := arrF_zero [b, c, d, e]
  clear CN hn
  go_enter Tryz.func39, Tryz.ntmps39
  go_wp2_with fail
  refine (SP.out _ (HT.out.below X.1)).mono ?_
  rintro e' w1 ⟨hb, A, cp, rfl, hsl, hcp⟩
  obtain ⟨bb, off, rfl, hbl, hat⟩ := hsl.2 (by simp)
  have c0 : w1.cell? ⟨bb, off + 0, none⟩ = some (strV a) := hat 0 (by simp)
  rw [Nat.add_zero] at c0
  have HU : Hid (∀ k, k < 4 → w1.cell? ⟨bb, off + (k + 1), none⟩ = some (strV ([b, c, d, e].getD k []))) := hide fun k hk => by
    have := hat (k + 1) (by simp; omega)
    rw [this]
    match k, hk with
    | 0, _ => rfl
    | 1, _ => rfl
    | 2, _ => rfl
    | 3, _ => rfl
  replace X := (X.to hb).alloc (mkRow 4 (arrF [b, c, d, e] 0)) 108
  rw [Z4] at X
  have lw : w.heap.size < w1.heap.size := Nat.lt_of_lt_of_le (by simp) hb.size
  clear hb hr hsl hat SP
  have hr := X.r2
  have c0' : (w1.alloc (.cells #[.int .i64 0, .int .i64 0, .int .i64 0, .int .i64 0] 108)).cell? ⟨bb, off, none⟩ = some (strV a) := (World.cell?_alloc_lt w1 _ ⟨bb, off, none⟩ hbl).trans c0
  go_wp2_with fail
  refine (IN.out _).mono ?_
  rintro e' w2 ⟨rfl, rfl⟩
  go_wp2
  rw [← Z4] at X
  have XH := hide X
  clear X hr c0'
  go_loopw [22] (fun v22 wr => ∃ k : Nat, k ≤ 4 ∧ v22 = .int .i64 (k : Int) ∧ Hid (∀ j, j < k → nuB ([b, c, d, e].getD j []) = true) ∧ Hid (Below w1.heap.size w1 wr) ∧
    Hid (Own w wr [(w1.heap.size, 108, mkRow 4 (arrF [b, c, d, e] k)), (w.heap.size, 57, #[.string ⟨#[]⟩, .int .i64 0, .int .i64 0, .int .i64 0, .int .i64 0])])) (fun v22 _ => 4 - (intOf v22).toNat)
  case atStart => exact ⟨0, by omega, rfl, hide (fun j hj => absurd hj (by omega)), hide ((Below.refl _ _).alloc (Nat.le_refl _) _), XH⟩
  case round =>
    obtain ⟨k, hk, rfl, HJ, HB, Y⟩ := hrel
    by_cases hlt : k < 4
    · have ck := (HB.out.cell (p := ⟨bb, off + (k + 1), none⟩) hbl).trans (HU.out k hlt)
      have NU := hide (fun W hW => number_any ([b, c, d, e].getD k []) W (by have := LU.out k hlt; omega) hW)
      have cz := (Y.out.r1.1 k).trans (mkRow_at 4 (arrF [b, c, d, e] k) hlt)
      rw [show arrF [b, c, d, e] k k = .int .i64 0 by simp [arrF]] at cz
      have fz := Y.out.r1.2.1 k
      have EM := hide (fun h => CM.out a b c d e HW.out k hlt h)
      have SS : Hid (∀ W, Own w W [(w1.heap.size, 108, mkRow 4 (arrF [b, c, d, e] k)), (w.heap.size, 57, #[.string ⟨#[]⟩, .int .i64 0, .int .i64 0, .int .i64 0, .int .i64 0])] →
          Own w (W.setCell ⟨w1.heap.size, k, none⟩ (.int .i64 (atV ([b, c, d, e].getD k [])))) [(w1.heap.size, 108, mkRow 4 (arrF [b, c, d, e] (k + 1))), (w.heap.size, 57, #[.string ⟨#[]⟩, .int .i64 0, .int .i64 0, .int .i64 0, .int .i64 0])]) := hide fun W h => by
        have := h.set0 (by omega) (by intro y hy; simp at hy; subst hy; show w.heap.size ≠ _; omega) k (.int .i64 (atV ([b, c, d, e].getD k [])))
        rw [arrF_set] at this
        exact this
      have i1 := IntWalk.i64_in ((k : Int) + 1) (by omega)
      have HX := hide (fun h (j : Nat) (hj : j < k + 1) => (by
        by_cases e : j = k
        · subst e; exact h
        · exact HJ.out j (by omega) : nuB ([b, c, d, e].getD j []) = true))
      have hr := Y.out.r2
      have hlw := Y.out.r1.2.2
      rcases Bool.eq_false_or_eq_true (nuB ([b, c, d, e].getD k [])) with hu | hu
      · have HX2 := hide (HX.out hu)
        rw [hu] at NU
        clear hu HX EM HJ
        generalize [b, c, d, e].getD k [] = x at *
        go_wp2_with fail
        refine (NU.out _ (HT.out.below Y.out.1)).mono ?_
        rintro e' w3 ⟨rfl, hb⟩
        have Y3 := hide (SS.out _ (Y.out.to hb))
        have HB3 : Hid (Below w1.heap.size w1 w3) := hide (below_via HB.out HB.out.size hb)
        have cz3 := (keeps hb _ _ _ cz)
        have fz3 : w3.frozen? ⟨w1.heap.size, k, none⟩ = false := (hb.frozen (p := ⟨w1.heap.size, k, none⟩) hlw).trans fz
        clear hb hr cz fz ck NU SS
        go_wp2
        go_roundw
        case rel => exact ⟨k + 1, by omega, by go_num, HX2, hide (below_set HB3.out (Nat.le_refl _) _), Y3⟩
        case measure => simp [intOf]; omega
      · have E := hide (EM.out hu)
        rw [hu] at NU
        clear hu HX EM HJ SS
        generalize [b, c, d, e].getD k [] = x at *
        go_wp2_with fail
        refine (NU.out _ (HT.out.below Y.out.1)).mono ?_
        rintro e' w3 ⟨rfl, hb⟩
        have X3 := Y.out.to hb
        clear hb hr cz fz ck NU
        have hr := X3.r2
        go_wp2
        exact bodyPost_ret (v := .tuple #[.agg #[.string ⟨#[]⟩, .int .i64 0, .int .i64 0, .int .i64 0, .int .i64 0], .bool false]) (by simp [results, Tryz.results39, hr, go_sem]) rfl (ClPost.no (by have HX := X3.1; have hz := HX.size; go_grown) E.out)
    · obtain rfl : k = 4 := by omega
      have ca := (HB.out.cell (p := ⟨bb, off, none⟩) hbl).trans c0
      have r1 : ∀ i, i < 4 → wr.cell? ⟨w1.heap.size, i, none⟩ = some (arrF [b, c, d, e] 4 i) := fun i hi => (Y.out.r1.1 i).trans (mkRow_at 4 _ hi)
      have k0 := r1 0 (by omega)
      have k1 := r1 1 (by omega)
      have k2 := r1 2 (by omega)
      have k3 := r1 3 (by omega)
      have u0 : arrF [b, c, d, e] 4 0 = .int .i64 (atV b) := rfl
      have u1 : arrF [b, c, d, e] 4 1 = .int .i64 (atV c) := rfl
      have u2 : arrF [b, c, d, e] 4 2 = .int .i64 (atV d) := rfl
      have u3 : arrF [b, c, d, e] 4 3 = .int .i64 (atV e) := rfl
      rw [u0] at k0
      rw [u1] at k1
      rw [u2] at k2
      rw [u3] at k3
      have NN := HJ.out
      have FY := hide (fun w' hb => CY.out a b c d e w' hb HW.out HN.out ⟨NN 0 (by omega), NN 1 (by omega), NN 2 (by omega), NN 3 (by omega)⟩)
      have hr := Y.out.tail.r1
      have hlw := Y.out.r1.2.2
      have BB := Y.out.1
      clear r1 u0 u1 u2 u3 NN HJ HU LU CM CY IN HT Y
      generalize atV b = vb at *
      generalize atV c = vc at *
      generalize atV d = vd at *
      generalize atV e = ve at *
      go_wp2
      go_region
      go_wp2
      exact bodyPost_ret (v := .tuple #[.agg #[strV a, .int .i64 vb, .int .i64 vc, .int .i64 vd, .int .i64 ve], .bool true]) (by simp [results, Tryz.results39, hr, go_sem]) rfl (FY.out _ (by have hz := BB.size; go_grown))
end Go.Proofs.YtaaadejamjbcbaaGreatDoor

namespace Go.Proofs.YtaaadejamjbcbaaGreatDoor
open Go Go.RowKit

theorem row_monoG {w : World} {base base' : Nat} {e : TypeId} {size : Nat} {v : Value} {n : Nat} {xs : List Value} (h : w.ownsRow base e size v n xs) (hb : base' ≤ base) : w.ownsRow base' e size v n xs :=
  ⟨h.1, h.2.imp id fun ⟨g, cap, cur, h1, h2, h3⟩ => ⟨g, cap, cur, h1, Nat.le_trans hb h2, h3⟩⟩
theorem row_anyG {w : World} {base : Nat} {e : TypeId} {size n : Nat} {v : Value} {xs : List Value} (h : w.ownsRow base e size v n xs) : ∃ A c, v = .slice A n c ∧ n ≤ c := by
  rcases h.2 with ⟨rfl, h0⟩ | ⟨g, cap, _, rfl, _, _, h2, _⟩
  · subst h0; exact ⟨none, 0, rfl, Nat.le_refl _⟩
  · exact ⟨_, cap, rfl, h2⟩
/-- the variable's block o holds the slice v, whose row grows beyond B2 -/
structure Grw (e tv : TypeId) (sz : Nat) (w wr : World) (B2 o : Nat) (R : List (Nat × TypeId × Array Value)) (v : Value) (n : Nat) (xs : List Value) : Prop where
  own : Own w wr ((o, tv, #[v]) :: R)
  row : wr.ownsRow B2 e sz v n xs
  b2 : B2 ≤ wr.heap.size ∧ w.heap.size ≤ B2 ∧ w.heap.size ≤ o
  lt : o < B2 ∧ ∀ x ∈ R, x.1 < B2
  ty : e ≠ tv ∧ ∀ x ∈ R, e ≠ x.2.1
  ne : ∀ x ∈ R, x.1 ≠ o
section
variable {e tv : TypeId} {sz : Nat} {w wr w' : World} {B2 o : Nat} {R : List (Nat × TypeId × Array Value)} {v : Value} {n : Nat} {xs : List Value}
theorem Grw.to (h : Grw e tv sz w wr B2 o R v n xs) (hb : Below wr.heap.size wr w') : Grw e tv sz w w' B2 o R v n xs :=
  ⟨h.own.to hb, row_below h.row hb, ⟨Nat.le_trans h.b2.1 hb.size, h.b2.2⟩, h.lt, h.ty, h.ne⟩
theorem Grw.alloc (h : Grw e tv sz w wr B2 o R v n xs) (x : Obj) : Grw e tv sz w (wr.alloc x) B2 o R v n xs := h.to ((Below.refl _ _).alloc (Nat.le_refl _) x)
theorem Grw.drew (h : Grw e tv sz w wr B2 o R v n xs) : Grw e tv sz w wr.drew B2 o R v n xs := h.to ((Below.refl wr.heap.size wr).drew)
theorem Grw.grown (h : Grw e tv sz w wr B2 o R v n xs) (hg : wr.grownBy w' v.ownBlock) : Own w w' ((o, tv, #[v]) :: R) :=
  h.own.grown (row_monoG h.row h.b2.2.1) hg (by
    intro x hx
    rcases List.mem_cons.1 hx with rfl | hx
    · exact h.ty.1
    · exact h.ty.2 x hx)
/-- the slice is appended to, and stored in its block -/
theorem Grw.app {v4 : Value} {n4 : Nat} {xs4 : List Value} (h : Grw e tv sz w wr B2 o R v n xs) (hown : w'.ownsRow B2 e sz v4 n4 xs4) (hg : wr.grownBy w' v.ownBlock) : Grw e tv sz w (w'.setCell ⟨o, 0, none⟩ v4) B2 o R v4 n4 xs4 := by
  have Y := h.grown hg
  have hsz : w'.heap.size ≤ (w'.setCell ⟨o, 0, none⟩ v4).heap.size := by simp [World.setCell]
  refine ⟨?_, ?_, ⟨Nat.le_trans h.b2.1 (Nat.le_trans hg.size hsz), h.b2.2⟩, h.lt, h.ty, h.ne⟩
  · exact Y.set0 h.b2.2.2 h.ne 0 v4
  · exact row_set hown (Y.2 _ (List.mem_cons_self ..)) h.ty.1 0 v4
/-- what lay below the row's base, but for the variable's block, lies as it lay behind an append -/
theorem Grw.kept {v4 : Value} (h : Grw e tv sz w wr B2 o R v n xs) (hg : wr.grownBy w' v.ownBlock) {k : Nat} (hk : k < B2) (hne : k ≠ o) : (w'.setCell ⟨o, 0, none⟩ v4).heap[k]? = wr.heap[k]? := by
  have e1 : w'.heap[k]? = wr.heap[k]? := hg.block k (Nat.lt_of_lt_of_le hk h.b2.1) (fun e => by
    have := (h.row.lt k e.symm).1
    omega)
  exact (Below.heap_setCell w' ⟨o, 0, none⟩ v4 k hne).trans e1
/-- what is no cells lies as it lay behind an append -/
theorem Grw.others {v4 : Value} (h : Grw e tv sz w wr B2 o R v n xs) (hg : wr.grownBy w' v.ownBlock) : KeepsOthers wr (w'.setCell ⟨o, 0, none⟩ v4) :=
  (KeepsOthers.of_grownBy hg fun j x ej hj => by
    rcases h.row.2 with ⟨rfl, _⟩ | ⟨g, cap, cur, rfl, _, hgb, _⟩
    · simp [Value.ownBlock] at ej
    · obtain rfl : g = j := by simpa [Value.ownBlock] using ej
      rw [hgb] at hj; cases hj; rfl).trans (KeepsOthers.setCell _ _ _)
/-- one block of R is turned -/
theorem Grw.turnR {b : Nat} {t : TypeId} {cs cs' : Array Value} {R1 R2 : List (Nat × TypeId × Array Value)} (h : Grw e tv sz w wr B2 o (R1 ++ (b, t, cs) :: R2) v n xs) (hb : w.heap.size ≤ b) (hn : ∀ x ∈ R1 ++ R2, x.1 ≠ b) (i : Nat) (u : Value) (hcs : cs' = cs.setIfInBounds i u) :
    Grw e tv sz w (wr.setCell ⟨b, i, none⟩ u) B2 o (R1 ++ (b, t, cs') :: R2) v n xs := by
  subst hcs
  have hB : Blk wr b t cs := h.own.2 (b, t, cs) (by simp)
  have hbo : b ≠ o := h.ne (b, t, cs) (by simp)
  refine ⟨⟨below_set h.own.1 hb u, fun x hx => ?_⟩, row_set h.row hB (h.ty.2 (b, t, cs) (by simp)) i u, ⟨by have := h.b2.1; simp [World.setCell]; exact this, h.b2.2⟩, ⟨h.lt.1, fun x hx => ?_⟩, ⟨h.ty.1, fun x hx => ?_⟩, fun x hx => ?_⟩
  · rcases List.mem_cons.1 hx with rfl | hx
    · exact (h.own.2 _ (List.mem_cons_self ..)).off hbo.symm u
    · rcases List.mem_append.1 hx with hx | hx
      · exact (h.own.2 x (by simp [hx])).off (hn x (by simp [hx])) u
      · rcases List.mem_cons.1 hx with rfl | hx
        · exact hB.set_ i u
        · exact (h.own.2 x (by simp [hx])).off (hn x (by simp [hx])) u
  · rcases List.mem_append.1 hx with hx | hx
    · exact h.lt.2 x (by simp [hx])
    · rcases List.mem_cons.1 hx with rfl | hx
      · exact h.lt.2 (b, t, cs) (by simp)
      · exact h.lt.2 x (by simp [hx])
  · rcases List.mem_append.1 hx with hx | hx
    · exact h.ty.2 x (by simp [hx])
    · rcases List.mem_cons.1 hx with rfl | hx
      · exact h.ty.2 (b, t, cs) (by simp)
      · exact h.ty.2 x (by simp [hx])
  · rcases List.mem_append.1 hx with hx | hx
    · exact h.ne x (by simp [hx])
    · rcases List.mem_cons.1 hx with rfl | hx
      · exact h.ne (b, t, cs) (by simp)
      · exact h.ne x (by simp [hx])
/-- a block that holds no cells is turned, beyond the row's base -/
theorem Grw.turn {row : Option Nat} (h : Grw e tv sz w wr B2 o R v n xs) (hg : wr.grownBy w' row) (hr : ∀ r, row = some r → B2 ≤ r ∧ ∃ x : Obj, wr.heap[r]? = some x ∧ x.isCells = false) : Grw e tv sz w w' B2 o R v n xs := by
  have nb : ∀ (b : Nat) (t : TypeId) (cs : Array Value) (f : Nat × Nat), wr.heap[b]? = some (.cells cs t f) → w'.heap[b]? = some (.cells cs t f) := fun b t cs f hb =>
    (hg.block b (Array.getElem?_eq_some_iff.1 hb).1 (fun e => by
      obtain ⟨_, x, hx, hc⟩ := hr b e.symm
      rw [hb] at hx; cases hx; cases hc)).trans hb
  refine ⟨⟨h.own.1.grown hg h.own.1.size (fun k hk => Nat.le_trans h.b2.2.1 (hr k hk).1), fun x hx => nb _ _ _ _ (h.own.2 x hx)⟩, ?_, ⟨Nat.le_trans h.b2.1 hg.size, h.b2.2⟩, h.lt, h.ty, h.ne⟩
  refine h.row.kept hg ?_
  rcases h.row.2 with ⟨rfl, _⟩ | ⟨g, cap, cur, rfl, _, hgb, _⟩
  · exact .inl rfl
  · refine .inr fun e => ?_
    obtain ⟨_, x, hx, hc⟩ := hr g (by simpa [Value.ownBlock] using e.symm)
    rw [hgb] at hx; cases hx; cases hc
/-- a block that is not ours, below the row's base, is turned (a box of somebody else's) -/
theorem Grw.box {b : Nat} (h : Grw e tv sz w wr B2 o R v n xs) (hg : wr.grownBy w' (some b)) (hb : w.heap.size ≤ b) (hB : b < B2) (ho : b ≠ o) (hR : ∀ x ∈ R, x.1 ≠ b) : Grw e tv sz w w' B2 o R v n xs := by
  refine ⟨⟨h.own.1.grown hg h.own.1.size (fun k hk => by injection hk with hk; omega), fun x hx => ?_⟩, ?_, ⟨Nat.le_trans h.b2.1 hg.size, h.b2.2⟩, h.lt, h.ty, h.ne⟩
  · have hx' := h.own.2 x hx
    refine (hg.block x.1 hx'.lt (fun e => ?_)).trans hx'
    injection e with e
    rcases List.mem_cons.1 hx with rfl | hx
    · exact ho e.symm
    · exact hR x hx e
  · refine h.row.kept hg ?_
    rcases h.row.2 with ⟨rfl, _⟩ | ⟨g, cap, cur, rfl, hgB, _⟩
    · exact .inl rfl
    · refine .inr fun e => ?_
      have : g = b := by simpa [Value.ownBlock] using e
      omega
end
end Go.Proofs.YtaaadejamjbcbaaGreatDoor

namespace Go.Proofs.YtaaadejamjbcbaaGreatDoor
open Go Go.RowKit Go.Shelf

theorem row_formG {w : World} {base : Nat} {e : TypeId} {size n : Nat} {v : Value} {xs : List Value} (h : w.ownsRow base e size v n xs) (hn : 0 < n) : ∃ g c, v = .slice (some ⟨g, 0, none⟩) n c := by
  rcases h.2 with ⟨rfl, h0⟩ | ⟨g, cap, _, rfl, _⟩
  · omega
  · exact ⟨g, cap, rfl⟩
/-- append in a fence: the new slice written out -/
theorem wpListIn_append_formG {F : Fence} {n : Nat} {P : Program} (w : World) {ops : Array Oper} {rest : List Oper} {o : Oper} {a : Act} {Q : Exit → Act → World → Prop}
    (hg : o.guard = none) (s x : Operand) (t : TypeId) (hop : o.op = Op.call { callee := Callee.builtin Builtin.append, args := #[s, x], argTypes := #[t, t] })
    (base : Nat) (e : TypeId) (i : TypeInfo) (z : Value) (size bytes : Nat) (h1 : P.underlying t = some (.slice e)) (h2 : P.info? e = some i) (h3 : i.zero = some z) (h4 : i.size = size) (h5 : i.bytes = bytes) (h6 : z.cells.size = size) (h7 : 0 < size)
    (v : Value) (k : Nat) (xs : List Value) (hs : a.eval s = v) (hown : w.ownsRow base e size v k xs) (ad : Addr) (m c : Nat) (news : List Value) (hx : a.eval x = .slice (some ad) m c) (hn : news.length = m * size)
    (hc : ∀ j u, news[j]? = some u → w.cell? (ad.add j) = some u) (h1c : ∀ u ∈ news, u.oneCell' = true) (h0 : 0 < m) (b1 : k + m ≤ maxLen) (b2 : (k + m) * bytes ≤ 140737488355328) (b3 : base ≤ w.heap.size)
    (hK : ∀ g cap w', w'.ownsRow base e size (.slice (some ⟨g, 0, none⟩) (k + m) cap) (k + m) (xs ++ news) → w.grownBy w' v.ownBlock → wpListIn F n P ops Q rest (a.put o.dst (.slice (some ⟨g, 0, none⟩) (k + m) cap)) w') :
    wpListIn F n P ops Q (o :: rest) a w :=
  wpListIn_append_own w hg s x t hop base e i z size bytes h1 h2 h3 h4 h5 h6 h7 v k xs hs hown ad m c news hx hn hc h1c b1 b2 b3 (fun v' w' h g _ => by
    obtain ⟨g', c', rfl⟩ := row_formG h (by omega)
    exact hK _ _ _ h g)
theorem heap_new_atG {W : World} {o : Obj} {n : Nat} (h : W.heap.size = n) : (W.alloc o).heap[n]? = some o := by subst h; exact heap_alloc_new W o
theorem others_below {w w' : World} (h : Below w.heap.size w w') : KeepsOthers w w' := ⟨h.size, fun k _ hk _ => (h.block k (Array.getElem?_eq_some_iff.1 hk).1).trans hk⟩
theorem box_below {w w' : World} (h : Below w.heap.size w w') {k : Nat} (hk : k < w.heap.size) : w'.heap[k]? = w.heap[k]? := h.block k hk
/-- the three results are stored: a slice, a struct of two cells, a number -/
theorem Grw.three {e tv tp te tr : TypeId} {sz : Nat} {w wr : World} {B2 o ab eb pb rb : Nat} {v : Value} {n : Nat} {xs : List Value} {ta : TypeId} {ca : Array Value} {e0 p0 p1 r0 : Value}
    (h : Grw e tv sz w wr B2 o [(ab, ta, ca), (eb, te, #[e0]), (pb, tp, #[p0, p1]), (rb, tr, #[r0])] v n xs) (h1 : w.heap.size ≤ rb ∧ w.heap.size ≤ pb ∧ w.heap.size ≤ eb) (h2 : ab ≠ eb ∧ ab ≠ pb ∧ ab ≠ rb ∧ eb ≠ pb ∧ eb ≠ rb ∧ pb ≠ rb) (r l c er : Value) :
    Grw e tv sz w ((((wr.setCell ⟨rb, 0, none⟩ r).setCell ⟨pb, 0, none⟩ l).setCell ⟨pb, 1, none⟩ c).setCell ⟨eb, 0, none⟩ er) B2 o [(ab, ta, ca), (eb, te, #[er]), (pb, tp, #[l, c]), (rb, tr, #[r])] v n xs := by
  obtain ⟨a1, a2, a3⟩ := h1
  obtain ⟨b1, b2, b3, b4, b5, b6⟩ := h2
  have k1 := Grw.turnR (R1 := [(ab, ta, ca), (eb, te, #[e0]), (pb, tp, #[p0, p1])]) (R2 := []) h a1 (fun x hx => by
    simp only [List.append_nil, List.mem_cons, List.not_mem_nil, or_false] at hx
    rcases hx with rfl | rfl | rfl
    all_goals dsimp only
    all_goals assumption) 0 r (cs' := #[r]) rfl
  have k2 := Grw.turnR (R1 := [(ab, ta, ca), (eb, te, #[e0])]) (R2 := [(rb, tr, #[r])]) k1 a2 (fun x hx => by
    simp only [List.cons_append, List.nil_append, List.mem_cons, List.not_mem_nil, or_false] at hx
    rcases hx with rfl | rfl | rfl
    all_goals dsimp only
    all_goals first | assumption | exact Ne.symm (by assumption)) 0 l (cs' := #[l, p1]) rfl
  have k3 := Grw.turnR (R1 := [(ab, ta, ca), (eb, te, #[e0])]) (R2 := [(rb, tr, #[r])]) k2 a2 (fun x hx => by
    simp only [List.cons_append, List.nil_append, List.mem_cons, List.not_mem_nil, or_false] at hx
    rcases hx with rfl | rfl | rfl
    all_goals dsimp only
    all_goals first | assumption | exact Ne.symm (by assumption)) 1 c (cs' := #[l, c]) rfl
  exact Grw.turnR (R1 := [(ab, ta, ca)]) (R2 := [(pb, tp, #[l, c]), (rb, tr, #[r])]) k3 a3 (fun x hx => by
    simp only [List.cons_append, List.nil_append, List.mem_cons, List.not_mem_nil, or_false] at hx
    rcases hx with rfl | rfl | rfl
    all_goals dsimp only
    all_goals first | assumption | exact Ne.symm (by assumption)) 0 er (cs' := #[er]) rfl
theorem others_four (w : World) (a b c d : Addr) (r l k e : Value) : KeepsOthers w ((((w.setCell a r).setCell b l).setCell c k).setCell d e) :=
  (((KeepsOthers.setCell _ _ _).trans (KeepsOthers.setCell _ _ _)).trans (KeepsOthers.setCell _ _ _)).trans (KeepsOthers.setCell _ _ _)
/-- the rounds' deferred calls are taken -/
theorem Grw.taken {e tv : TypeId} {sz : Nat} {w wr : World} {B2 o D : Nat} {R : List (Nat × TypeId × Array Value)} {v : Value} {n : Nat} {xs : List Value} (h : Grw e tv sz w wr B2 o R v n xs) (hD : B2 ≤ D) (hK : wr.heap[D]? = some (.deferred (some []))) :
    Grw e tv sz w (wr.putObj D (.deferred none)) B2 o R v n xs :=
  h.turn (grownBy_putObj' wr D (.deferred none)) (fun r hr => by cases hr; exact ⟨hD, _, hK, rfl⟩)
end Go.Proofs.YtaaadejamjbcbaaGreatDoor

namespace Go.Proofs.YtaaadejamjbcbaaGreatDoor
open Go Go.RowKit

abbrev Cls.cs (c : Cls) : List Value := [.string c.nm, .int .i64 c.se, .int .i64 c.we, .int .i64 c.ro, .int .i64 c.dr]
def flatC (l : List Cls) : List Value := l.flatMap Cls.cs
theorem flatC_append (a b : List Cls) : flatC (a ++ b) = flatC a ++ flatC b := by simp [flatC]
theorem flatC_len (l : List Cls) : (flatC l).length = l.length * 5 := by
  induction l with
  | nil => rfl
  | cons c l ih => simp only [flatC, List.flatMap_cons, List.length_append, List.length_cons] at ih ⊢; rw [ih]; simp; omega
theorem flatC_at : ∀ (l : List Cls) (i : Nat) (h : i < l.length), (flatC l)[i * 5]? = some (.string l[i].nm) ∧ (flatC l)[i * 5 + 1]? = some (.int .i64 l[i].se) ∧ (flatC l)[i * 5 + 2]? = some (.int .i64 l[i].we) ∧ (flatC l)[i * 5 + 3]? = some (.int .i64 l[i].ro) ∧ (flatC l)[i * 5 + 4]? = some (.int .i64 l[i].dr)
  | [], i, h => absurd h (by simp)
  | c :: l, 0, _ => ⟨rfl, rfl, rfl, rfl, rfl⟩
  | c :: l, i + 1, h => by
    have ih := flatC_at l i (by simpa using h)
    have e : flatC (c :: l) = c.cs ++ flatC l := rfl
    have k : ∀ j, (flatC (c :: l))[(i + 1) * 5 + j]? = (flatC l)[i * 5 + j]? := fun j => by
      rw [e, List.getElem?_append_right (by simp; omega)]
      congr 1
      simp; omega
    exact ⟨(k 0).trans ih.1, (k 1).trans ih.2.1, (k 2).trans ih.2.2.1, (k 3).trans ih.2.2.2.1, (k 4).trans ih.2.2.2.2⟩
theorem ClsSl.nil (w : World) (A : Option Addr) : ClsSl w A [] := ⟨⟨by simp, fun i h => by simp at h⟩, fun h => by simp at h⟩
theorem ClsSl.of_row {w : World} {base : Nat} {e : TypeId} {v : Value} {n : Nat} {l : List Cls} (h : w.ownsRow base e 5 v n (flatC l)) (hb : l.length ≤ maxLen) (hm : ∀ i (h : i < l.length), l[i].nm.size ≤ maxLen) : ∃ A c, v = .slice A l.length c ∧ ClsSl w A l ∧ l.length ≤ c := by
  have hn : l.length = n := by have := h.1; rw [flatC_len] at this; omega
  rcases h.2 with ⟨rfl, h0⟩ | ⟨g, cap, cur, rfl, hg, hcell, hnc, _, hsz, htake⟩
  · rw [h0] at hn
    have : l = [] := List.eq_nil_of_length_eq_zero hn
    subst this
    exact ⟨none, 0, rfl, ClsSl.nil w none, by simp⟩
  · subst hn
    refine ⟨some ⟨g, 0, none⟩, cap, rfl, ⟨⟨hb, hm⟩, fun _ => ⟨g, 0, rfl, (Array.getElem?_eq_some_iff.1 hcell).1, fun i hi => ?_⟩⟩, hnc⟩
    have k := fun j u (hu : (flatC l)[j]? = some u) => (show w.cell? ⟨g, 0 + j, none⟩ = some u by
      have hc := h.cells (g := g) rfl j u hu
      have e : (⟨g, 0, none⟩ : Addr).add j = ⟨g, 0 + j, none⟩ := by unfold Addr.add; split <;> simp_all
      rw [e] at hc
      exact hc)
    obtain ⟨a0, a1, a2, a3, a4⟩ := flatC_at l i hi
    exact ⟨k _ _ a0, k _ _ a1, k _ _ a2, k _ _ a3, k _ _ a4⟩
theorem cls_info : (Tryz.prog.info? 57).map (fun i => (i.zero, i.size, i.bytes)) = some (some (.agg #[.string ⟨#[]⟩, .int .i64 0, .int .i64 0, .int .i64 0, .int .i64 0]), 5, 48) := by kernel_rfl
end Go.Proofs.YtaaadejamjbcbaaGreatDoor

namespace Go.Proofs.YtaaadejamjbcbaaGreatDoor
open Go Go.RowKit Go.Shelf

attribute [local go_sem] Oper.semAt_some

def prsF (s : List UInt8) : List Cls × Int × Int := if 262144 < s.length then ([], 0, 4) else prs (pts 10 s) 0 []
def colI (n : Int) : Int := if n = 0 then 0 else 1
def PrsPost (s : List UInt8) (w : World) (e : Ending) (w' : World) : Prop :=
  Below w.heap.size w w' ∧ ∃ (A : Option Addr) (c : Nat), e = .returned (.tuple #[.slice A (prsF s).1.length c, .agg #[.int .i64 (prsF s).2.1, .int .i64 (colI (prsF s).2.1)], .int .i64 (prsF s).2.2]) ∧ ClsSl w' A (prsF s).1 ∧ (prsF s).1.length ≤ c
theorem PrsPost.err {s : List UInt8} {w w' : World} {ln er : Int} (hb : Below w.heap.size w w') (h : prsF s = ([], ln, er)) : PrsPost s w (.returned (.tuple #[.slice none 0 0, .agg #[.int .i64 ln, .int .i64 (colI ln)], .int .i64 er])) w' := by
  refine ⟨hb, none, 0, by rw [h]; rfl, by rw [h]; exact ClsSl.nil _ _, by rw [h]; exact Nat.le_refl _⟩
set_option maxRecDepth 100000 in
set_option maxHeartbeats 4000000 in
theorem parse_any (s : List UInt8) (w : World) (hs : s.length ≤ 900000) (ht : TxtW w) : Calls Tryz.prog 19 #[strV s] w (PrsPost s w) := by
  have HT := hide ht
  clear ht
  have hs2 : (⟨s.toArray⟩ : ByteArray).size = s.length := by simp [ByteArray.size]
  have X := (((Own.start w).alloc #[.slice none 0 0] 49).alloc #[.int .i64 0, .int .i64 0] 51).alloc #[.int .i64 0] 28
  simp only [World.size_alloc] at X
  have hr := X.r3
  by_cases hbig : 262144 < s.length
  · have E : Hid (prsF s = ([], 0, 4)) := hide (by unfold prsF; rw [if_pos hbig])
    have q1 : decide ((262144 : Int) < (s.length : Int)) = true := decide_eq_true (by omega)
    clear hbig
    go_enter Tryz.func19, Tryz.ntmps19
    go_wp2
    exact bodyPost_ret (v := .tuple #[.slice none 0 0, .agg #[.int .i64 0, .int .i64 0], .int .i64 4]) (by simp [results, Tryz.results19, go_sem]) rfl (PrsPost.err (by have HX := X.1; have hz := HX.size; go_grown) E.out)
  have q1 : decide ((262144 : Int) < (s.length : Int)) = false := decide_eq_false (by omega)
  have EF : Hid (prsF s = prsL (lns s) 0 []) := hide (by unfold prsF; rw [if_neg hbig, prs_lns])
  clear hbig
  refine (callsIn_wide (n := 4)).1 ?_
  refine callsIn_of_wp_marks Tryz.func19 rfl trivial ?_ rfl
  simp only [Tryz.ntmps19, List.size_toArray, List.length_cons, List.length_nil, Nat.reduceAdd, Nat.reduceSub, Array.replicate_succ, Array.replicate_zero, List.push_toArray, List.append_toArray, List.nil_append, List.cons_append]
  gi_wp2_with fail
  refine ⟨trivial, (callsIn_wide.2 (lines_any s _)).mono ?_⟩
  rintro e w1 ⟨rfl, rfl⟩
  have hb5 : w.heap.size + 1 + 1 + 1 + 1 + 1 = w.heap.size + 5 := by omega
  replace X := ((X.alloc #[.slice none 0 0] 49).alloc #[.int .i64 1, .int .i64 1] 51).alloc #[strV s] 9
  simp only [World.size_alloc] at X
  clear hr
  gi_wp2
  generalize hW : (((((w.alloc (.cells #[.slice none 0 0] 49)).alloc (.cells #[.int .i64 0, .int .i64 0] 51)).alloc (.cells #[.int .i64 0] 28)).alloc (.cells #[.slice none 0 0] 49)).alloc (.cells #[.int .i64 1, .int .i64 1] 51)).alloc (.cells #[strV s] 9) = W at *
  have hWs : W.heap.size = w.heap.size + 6 := by rw [← hW]; simp
  clear hW
  have BX : Blk W (w.heap.size + 1 + 1 + 1 + 1 + 1) 9 #[strV s] := X.2 (_, _, _) (List.mem_cons_self ..)
  have G0 : Grw 57 49 5 w W W.heap.size (w.heap.size + 1 + 1 + 1) [(w.heap.size + 1 + 1 + 1 + 1, 51, #[.int .i64 1, .int .i64 1]), (w.heap.size + 1 + 1, 28, #[.int .i64 0]), (w.heap.size + 1, 51, #[.int .i64 0, .int .i64 0]), (w.heap.size, 49, #[.slice none 0 0])] (.slice none 0 0) 0 [] := by
    refine ⟨X.tail.swap, World.ownsRow_nil _ _ _ _, ⟨Nat.le_refl _, X.1.size, by omega⟩, ⟨by omega, fun x hx => ?_⟩, ⟨by decide, fun x hx => ?_⟩, fun x hx => ?_⟩
    all_goals
      simp only [List.mem_cons, List.not_mem_nil, or_false] at hx
      rcases hx with rfl | rfl | rfl | rfl
      all_goals dsimp only
      all_goals first | decide | omega
  have GH := hide G0
  clear X G0
  have LN := hide (fun x hx => lns_len (s := s) x hx)
  have LL := lns_length s
  refine' rangeFunc_box rfl (by decide) (gf := 55) (lb := #[.pointer (some ⟨w.heap.size + 1 + 1 + 1 + 1 + 1, 0, none⟩)]) rfl trivial (enters_of Tryz.func55 (by kernel_rfl) rfl)
    (encs := fun x : List UInt8 => #[strV x]) (Bs := w.heap.size + 1 + 1 + 1 + 1 + 1) (L := lns s) (lines_gives 3 (by decide) _ s (by omega) W BX) BX.lt (fun _ => rfl)
    (fun pre W' => pre <+: lns s ∧ ∃ acc v, acc.length = pre.length ∧ (∀ c ∈ acc, c.nm.size ≤ maxLen) ∧ prsL (lns s) 0 [] = prsL ((lns s).drop pre.length) pre.length acc ∧
      Grw 57 49 5 w W' W.heap.size (w.heap.size + 1 + 1 + 1) [(w.heap.size + 1 + 1 + 1 + 1, 51, #[.int .i64 ((pre.length : Int) + 1), .int .i64 1]), (w.heap.size + 1 + 1, 28, #[.int .i64 0]), (w.heap.size + 1, 51, #[.int .i64 0, .int .i64 0]), (w.heap.size, 49, #[.slice none 0 0])] v acc.length (flatC acc))
    (fun c _ W' => c = .ret ∧ ∃ (k n : Nat) (v : Value) (xs : List Value), prsL (lns s) 0 [] = ([], (k : Int) + 1, 7) ∧
      Grw 57 49 5 w W' W.heap.size (w.heap.size + 1 + 1 + 1) [(w.heap.size + 1 + 1 + 1 + 1, 51, #[.int .i64 ((k : Int) + 1), .int .i64 1]), (w.heap.size + 1 + 1, 28, #[.int .i64 7]), (w.heap.size + 1, 51, #[.int .i64 ((k : Int) + 1), .int .i64 1]), (w.heap.size, 49, #[.slice none 0 0])] v n xs)
    (fun _ A B row hs hg hr => by obtain ⟨h1, acc, v, h2, h3, h4, h5⟩ := hs; exact ⟨h1, acc, v, h2, h3, h4, h5.turn hg hr⟩)
    (fun _ _ A B row hs hg hr => by obtain ⟨h1, k, n, v, xs, h2, h5⟩ := hs; exact ⟨h1, k, n, v, xs, h2, h5.turn hg hr⟩)
    (fun _ A B hs hg => by
      obtain ⟨h1, acc, v, h2, h3, h4, h5⟩ := hs
      exact ⟨h1, acc, v, h2, h3, h4, h5.box hg (by omega) (by omega) (by omega) (fun x hx => by
        simp only [List.mem_cons, List.not_mem_nil, or_false] at hx
        rcases hx with rfl | rfl | rfl | rfl
        all_goals (show (_ : Nat) ≠ _; omega))⟩)
    (fun _ _ A B hs hg => by
      obtain ⟨h1, k, n, v, xs, h2, h5⟩ := hs
      exact ⟨h1, k, n, v, xs, h2, h5.box hg (by omega) (by omega) (by omega) (fun x hx => by
        simp only [List.mem_cons, List.not_mem_nil, or_false] at hx
        rcases hx with rfl | rfl | rfl | rfl
        all_goals (show (_ : Nat) ≠ _; omega))⟩)
    ⟨⟨lns s, rfl⟩, [], .slice none 0 0, rfl, (fun c hc => by simp at hc), rfl, GH.out⟩
    _ ?assign ?body ?done ?stop
  case assign =>
    intro l x W K hK
    gi_wp2
    exact hK
  case body =>
    rintro l' pre x W' hpre ⟨_, acc, v, ha, hc, hp, Y⟩
    have hxm : x ∈ lns s := hpre.subset (by simp)
    have lx := LN.out x hxm
    have lb := body_len x
    have hdr : (lns s).drop pre.length = x :: (lns s).drop (pre.length + 1) := by
      obtain ⟨t, ht⟩ := hpre
      rw [← ht]
      simp
    have hlen : pre.length + 1 ≤ s.length + 1 := by
      have := hpre.length_le
      simp at this
      omega
    rw [hdr, prsL] at hp
    have CU := hide (fun W => cutSuf_any x W (by omega))
    have lx2 : (bodyL x).length ≤ 1000000 := by omega
    have CL := hide (fun W hW => class_any (bodyL x) W lx2 hW)
    have PRE := hide hpre
    have YH := hide Y
    have AL := hide (And.intro ha hc)
    have hcr : Hid ((clR (bodyL x)).nm.size ≤ maxLen) := hide (by
      unfold clR
      split
      · rename_i h
        have hr2 := cl_back h
        have : (clC (bodyL x)).nm.size ≤ (txC (clC (bodyL x))).length := by unfold txC; simp
        rw [hr2] at this
        unfold maxLen; omega
      · unfold maxLen clZ; simp [ByteArray.size])
    have i1 := IntWalk.i64_in ((pre.length : Int) + 1) (by omega)
    have i2 := IntWalk.i64_in ((pre.length : Int) + 1 + 1) (by omega)
    have ny : clR (bodyL x) = if clB (bodyL x) = true then clC (bodyL x) else clZ := rfl
    by_cases hok : clB (bodyL x) = true ∧ endB x = true
    · rw [if_pos hok] at hp
      obtain ⟨ok1, ok2⟩ := hok
      have HP := hide hp
      rw [if_pos ok1] at ny
      rw [← ny] at HP
      have CL2 : Hid (∀ W, TxtW W → Calls Tryz.prog 39 #[strV (bodyL x)] W fun e w' => e = .returned (.tuple #[(clR (bodyL x)).val, .bool true]) ∧ Below W.heap.size W w') := hide (fun W hW => by have := CL.out W hW; unfold ClPost at this; rw [ok1] at this; exact this)
      rw [ok2] at CU
      clear hp ny CL ok1 ok2 hdr hxm hpre ha hc Y lb lx
      generalize clR (bodyL x) = c0 at *
      generalize bodyL x = bd at *
      obtain ⟨i0, hi0, hz0, hz1, hz2⟩ := info_parts cls_info
      gi_wp2_with fail
      refine ⟨trivial, (CallsIn.inRound l' (callsIn_wide.2 (CU.out _))).mono ?_⟩
      rintro e w2 ⟨rfl, rfl⟩
      gi_wp2_with fail
      refine ⟨trivial, (CallsIn.inRound l' (callsIn_wide.2 (CL2.out _ (HT.out.below YH.out.own.1)))).mono ?_⟩
      rintro e w3 ⟨rfl, hb⟩
      have Y3 := (YH.out.to hb).alloc (.cells #[.string c0.nm, .int .i64 c0.se, .int .i64 c0.we, .int .i64 c0.ro, .int .i64 c0.dr] 57)
      have hb3 : Below W'.heap.size W' (w3.alloc (.cells #[.string c0.nm, .int .i64 c0.se, .int .i64 c0.we, .int .i64 c0.ro, .int .i64 c0.dr] 57)) := hb.alloc hb.size _
      have BC := (Blk.new w3 57 #[.string c0.nm, .int .i64 c0.se, .int .i64 c0.we, .int .i64 c0.ro, .int .i64 c0.dr]).rules
      have hr := Y3.own.r2
      have Y3H := hide Y3
      have B3H := hide hb3
      clear Y3 hb hb3 CU CL2
      have la : acc.length ≤ 900001 := by have := AL.out.1; omega
      have f1 : acc.length + 1 ≤ maxLen := by unfold maxLen; omega
      have f2 : (acc.length + 1) * 48 ≤ 140737488355328 := by omega
      have f3 : W.heap.size ≤ ((w3.alloc (.cells #[.string c0.nm, .int .i64 c0.se, .int .i64 c0.we, .int .i64 c0.ro, .int .i64 c0.dr] 57)).alloc (.cells #[.string c0.nm, .int .i64 c0.se, .int .i64 c0.we, .int .i64 c0.ro, .int .i64 c0.dr] 57)).heap.size := by have := Y3H.out.b2.1; simp at this ⊢; omega
      have f4 : ∀ u ∈ ([.string c0.nm, .int .i64 c0.se, .int .i64 c0.we, .int .i64 c0.ro, .int .i64 c0.dr] : List Value), u.oneCell' = true := by intro u hu; simp at hu; rcases hu with rfl | rfl | rfl | rfl | rfl <;> rfl
      gi_wp2_with (gi_at_builtin; refine wpListIn_append_formG _ rfl _ _ 49 rfl W.heap.size 57 i0 (.agg #[.string ⟨#[]⟩, .int .i64 0, .int .i64 0, .int .i64 0, .int .i64 0]) 5 48 Tryz.underlying49 hi0 hz0 hz1 hz2 rfl (by decide) _ acc.length (flatC acc) rfl (Y3H.out.row.alloc (.cells #[.string c0.nm, .int .i64 c0.se, .int .i64 c0.we, .int .i64 c0.ro, .int .i64 c0.dr] 57)) ⟨w3.heap.size + 1, 0, none⟩ 1 1 [.string c0.nm, .int .i64 c0.se, .int .i64 c0.we, .int .i64 c0.ro, .int .i64 c0.dr] rfl rfl (World.news_of_block (cs := #[.string c0.nm, .int .i64 c0.se, .int .i64 c0.we, .int .i64 c0.ro, .int .i64 c0.dr]) (t := 57) (fr := (0, 0)) (heap_new_atG (World.size_alloc _ _))) f4 (by decide) f1 f2 f3 ?_; intro gg cp w4 hown4 hgrow; have hr4 := ((Y3H.out.alloc (.cells #[.string c0.nm, .int .i64 c0.se, .int .i64 c0.we, .int .i64 c0.ro, .int .i64 c0.dr] 57)).grown hgrow).r2)
      have Y5 := (Y3H.out.alloc (.cells #[.string c0.nm, .int .i64 c0.se, .int .i64 c0.we, .int .i64 c0.ro, .int .i64 c0.dr] 57)).app (xs4 := flatC (acc ++ [c0])) (by rw [flatC_append]; exact hown4) hgrow
      have Y6 := Grw.turnR (R1 := []) Y5 (by omega) (fun x hx => by
        simp only [List.nil_append, List.mem_cons, List.not_mem_nil, or_false] at hx
        rcases hx with rfl | rfl | rfl
        all_goals dsimp only
        all_goals omega) 0 (.int .i64 ((pre.length : Int) + 1 + 1)) rfl
      have K1 := (((others_below B3H.out).trans (KeepsOthers.alloc _ (.cells #[.string c0.nm, .int .i64 c0.se, .int .i64 c0.we, .int .i64 c0.ro, .int .i64 c0.dr] 57))).trans ((Y3H.out.alloc (.cells #[.string c0.nm, .int .i64 c0.se, .int .i64 c0.we, .int .i64 c0.ro, .int .i64 c0.dr] 57)).others hgrow (v4 := .slice (some ⟨gg, 0, none⟩) (acc.length + 1) cp))).trans (KeepsOthers.setCell _ ⟨w.heap.size + 1 + 1 + 1 + 1, 0, none⟩ (.int .i64 ((pre.length : Int) + 1 + 1)))
      have BW : w.heap.size + 1 + 1 + 1 + 1 + 1 < W'.heap.size := by have := YH.out.b2.1; omega
      have K2 := (Below.heap_setCell _ ⟨w.heap.size + 1 + 1 + 1 + 1, 0, none⟩ (.int .i64 ((pre.length : Int) + 1 + 1)) (w.heap.size + 1 + 1 + 1 + 1 + 1) (show w.heap.size + 1 + 1 + 1 + 1 + 1 ≠ w.heap.size + 1 + 1 + 1 + 1 by omega)).trans (((Y3H.out.alloc (.cells #[.string c0.nm, .int .i64 c0.se, .int .i64 c0.we, .int .i64 c0.ro, .int .i64 c0.dr] 57)).kept hgrow (v4 := .slice (some ⟨gg, 0, none⟩) (acc.length + 1) cp) (k := w.heap.size + 1 + 1 + 1 + 1 + 1) (by omega) (by omega)).trans (((Below.refl _ _).alloc (Nat.le_refl _) (.cells #[.string c0.nm, .int .i64 c0.se, .int .i64 c0.we, .int .i64 c0.ro, .int .i64 c0.dr] 57) |>.block _ (Nat.lt_of_lt_of_le BW B3H.out.size)).trans (B3H.out.block _ BW)))
      have el : pre.length + 1 = (pre ++ [x]).length := by simp
      have el2 : acc.length + 1 = (acc ++ [c0]).length := by simp
      refine ⟨K1.from _, K2, PRE.out, acc ++ [c0], .slice (some ⟨gg, 0, none⟩) (acc.length + 1) cp, by rw [← el, ← el2, AL.out.1], fun c hcm => ?_, by rw [HP.out, ← el], ?_⟩
      · rcases List.mem_append.1 hcm with h | h
        · exact AL.out.2 c h
        · rw [List.mem_singleton.1 h]; exact hcr.out
      · rw [← el, ← el2]
        exact Y6
    · rw [if_neg hok] at hp
      have HP := hide hp
      have CL2 : Hid (∀ W, TxtW W → Calls Tryz.prog 39 #[strV (bodyL x)] W fun e w' => e = .returned (.tuple #[(clR (bodyL x)).val, .bool (clB (bodyL x))]) ∧ Below W.heap.size W w') := hide (fun W hW => CL.out W hW)
      have oc : (clB (bodyL x) = true ∧ endB x = false) ∨ (clB (bodyL x) = false ∧ endB x = false) ∨ (clB (bodyL x) = false ∧ endB x = true) := by
        cases h1 : clB (bodyL x) <;> cases h2 : endB x <;> simp [h1, h2] at hok ⊢
      clear hp ny CL hdr hxm hpre ha hc Y lb lx hok
      generalize clR (bodyL x) = c0 at *
      generalize clB (bodyL x) = ok at *
      generalize bodyL x = bd at *
      generalize endB x = en at *
      rcases oc with ⟨rfl, rfl⟩ | ⟨rfl, rfl⟩ | ⟨rfl, rfl⟩
      all_goals
        gi_wp2_with fail
        refine ⟨trivial, (CallsIn.inRound l' (callsIn_wide.2 (CU.out _))).mono ?_⟩
        rintro e w2 ⟨rfl, rfl⟩
        gi_wp2_with fail
        refine ⟨trivial, (CallsIn.inRound l' (callsIn_wide.2 (CL2.out _ (HT.out.below YH.out.own.1)))).mono ?_⟩
        rintro e w3 ⟨rfl, hb⟩
        have Y3 := (YH.out.to hb).alloc (.cells #[.string c0.nm, .int .i64 c0.se, .int .i64 c0.we, .int .i64 c0.ro, .int .i64 c0.dr] 57)
        have hb3 : Below W'.heap.size W' (w3.alloc (.cells #[.string c0.nm, .int .i64 c0.se, .int .i64 c0.we, .int .i64 c0.ro, .int .i64 c0.dr] 57)) := hb.alloc hb.size _
        have hr := Y3.own.r5
        have Y3H := hide Y3
        have B3H := hide hb3
        clear Y3 hb hb3 CU CL2
        gi_wp2
        gi_region
        all_goals
          gi_wp2
          have Y5 := (Y3H.out.three (by omega) (by omega) (.slice none 0 0) (.int .i64 ((pre.length : Int) + 1)) (.int .i64 1) (.int .i64 7)).drew
          have K1 := ((others_below B3H.out).trans (others_four _ ⟨w.heap.size, 0, none⟩ ⟨w.heap.size + 1, 0, none⟩ ⟨w.heap.size + 1, 1, none⟩ ⟨w.heap.size + 1 + 1, 0, none⟩ (.slice none 0 0) (.int .i64 ((pre.length : Int) + 1)) (.int .i64 1) (.int .i64 7)))
          exact ⟨(K1.trans (KeepsOthers.drew _)).from _, rfl, pre.length, acc.length, v, flatC acc, HP.out, Y5⟩
  case done =>
    rintro D W' hD ⟨_, acc, v, ha, hc, hp, Y⟩ hK
    rw [List.drop_length, prsL] at hp
    have HP := hide hp
    have la : acc.length ≤ 900001 := by omega
    have KH := hide hK
    obtain ⟨A', cp, rfl, hsl, hcp⟩ := ClsSl.of_row Y.row (by unfold maxLen; omega) (fun i h => hc _ (List.getElem_mem h))
    have V := hide (fun W h => luvalid_any acc A' cp W h)
    have SL := hide hsl
    have hr := Y.own.r5
    have YH := hide Y
    have HCP := hide (And.intro hcp hc)
    clear hp hK hsl Y ha hc hcp
    gi_wp2_with fail
    refine ⟨trivial, (callsIn_wide.2 (V.out _ SL.out)).mono ?_⟩
    rintro e w3 ⟨rfl, hb⟩
    have Y3 := YH.out.to hb
    clear hr
    have hr := Y3.own.r5
    have Y3H := hide Y3
    have KB : Hid (w3.heap[D]? = some (.deferred (some []))) := hide ((others_below hb).same D _ KH.out rfl)
    clear Y3 hb V
    rcases Bool.eq_false_or_eq_true (validB acc) with hv | hv
    · have E : Hid (prsF s = (acc, 0, 0)) := hide (by rw [EF.out, HP.out]; unfold doneL doneE; rw [hv]; rfl)
      rw [hv]
      gi_wp2
      have Y5 := Y3H.out.three (by omega) (by omega) (.slice A' acc.length cp) (.int .i64 0) (.int .i64 0) (.int .i64 0)
      have K5 := (others_four w3 ⟨w.heap.size, 0, none⟩ ⟨w.heap.size + 1, 0, none⟩ ⟨w.heap.size + 1, 1, none⟩ ⟨w.heap.size + 1 + 1, 0, none⟩ (.slice A' acc.length cp) (.int .i64 0) (.int .i64 0) (.int .i64 0)).same D _ KB.out rfl
      have Y6 := Y5.taken hD K5
      have Y6H := hide Y6
      clear Y5 Y6
      refine ⟨by simp, .inl ⟨_, _, rfl, run_takeDeferred K5, ?_⟩⟩
      refine ⟨.tuple #[.slice A' acc.length cp, .agg #[.int .i64 0, .int .i64 0], .int .i64 0], ?_, ?_⟩
      · have hr2 := Y6H.out.own.r5
        clear hr
        simp [results, Tryz.results19, hr2, go_sem]
      · obtain ⟨A2, cp2, e2, hsl2, _⟩ := ClsSl.of_row Y6H.out.row (by unfold maxLen; omega) (fun i h => HCP.out.2 _ (List.getElem_mem h))
        injection e2 with e2 _ e3
        subst e2
        exact ⟨Y6H.out.own.1, A', cp, by rw [E.out]; rfl, by rw [E.out]; exact hsl2, by rw [E.out]; exact HCP.out.1⟩
    · have E : Hid (prsF s = ([], 0, 1)) := hide (by rw [EF.out, HP.out]; unfold doneL doneE; rw [hv]; rfl)
      rw [hv]
      gi_wp2
      have Y5 := Y3H.out.three (by omega) (by omega) (.slice none 0 0) (.int .i64 0) (.int .i64 0) (.int .i64 1)
      have K5 := (others_four w3 ⟨w.heap.size, 0, none⟩ ⟨w.heap.size + 1, 0, none⟩ ⟨w.heap.size + 1, 1, none⟩ ⟨w.heap.size + 1 + 1, 0, none⟩ (.slice none 0 0) (.int .i64 0) (.int .i64 0) (.int .i64 1)).same D _ KB.out rfl
      have Y6 := Y5.taken hD K5
      have Y6H := hide Y6
      clear Y5 Y6
      refine ⟨by simp, .inl ⟨_, _, rfl, run_takeDeferred K5, ?_⟩⟩
      refine ⟨.tuple #[.slice none 0 0, .agg #[.int .i64 0, .int .i64 0], .int .i64 1], ?_, ?_⟩
      · have hr2 := Y6H.out.own.r5
        clear hr
        simp [results, Tryz.results19, hr2, go_sem]
      · exact PrsPost.err Y6H.out.own.1 E.out
  case stop =>
    rintro D c pre W' hD _ ⟨rfl, k, n, v, xs, hp, Y⟩ hK
    have E : Hid (prsF s = ([], (k : Int) + 1, 7)) := hide (EF.out.trans hp)
    have YH := hide Y
    gi_wp2
    refine ⟨by simp, .inl ⟨_, _, rfl, run_takeDeferred hK, ?_⟩⟩
    refine ⟨.tuple #[.slice none 0 0, .agg #[.int .i64 ((k : Int) + 1), .int .i64 1], .int .i64 7], ?_, ?_⟩
    · have hr2 := (YH.out.taken hD hK).own.r5
      simp [results, Tryz.results19, hr2, go_sem]
    · have P := PrsPost.err (YH.out.taken hD hK).own.1 E.out
      have ec : colI ((k : Int) + 1) = 1 := by unfold colI; rw [if_neg (by omega)]
      rw [ec] at P
      exact P
end Go.Proofs.YtaaadejamjbcbaaGreatDoor
