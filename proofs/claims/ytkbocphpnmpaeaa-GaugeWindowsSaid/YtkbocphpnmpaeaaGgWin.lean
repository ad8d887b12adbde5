/- The program's Window of records: what it returns; nothing that was there is turned. -/
import Derived.Test.YtkbocphpnmpaeaaGgRs
import Derived.Test.YtkbocphpnmpaeaaGgGat
import Derived.Deep.RegionHeld3
namespace Go.Proofs.Ytkbocphpnmpaeaa
open Go.RowKit

theorem IntSl.set_ {w : World} {A : Option Addr} {l : List Int} (h : IntSl w A l) {g : Nat} (hg : ∀ a, A = some a → a.block ≠ g) (i : Nat) (u : Value) : IntSl (w.setCell ⟨g, i, none⟩ u) A l :=
  ⟨h.1, fun h0 => by
    obtain ⟨b, off, e, hb, hat⟩ := h.2 h0
    refine ⟨b, off, e, by simp [World.setCell]; exact hb, fun j hj => ?_⟩
    rw [World.cell?_setCell_other _ _ _ _ (by intro e2; injection e2 with e2; exact hg _ e e2.symm)]
    exact hat j hj⟩
/-- a copy in new memory -/
def CloPost (l : List Int) (w : World) (e : Ending) (w' : World) : Prop := Below w.heap.size w w' ∧ ∃ A c, e = .returned (.slice A l.length c) ∧ IntSl w' A l ∧ l.length ≤ c ∧ ∀ a, A = some a → w.heap.size ≤ a.block
set_option maxHeartbeats 1000000 in
theorem clo_any (l : List Int) (A : Option Addr) (c : Nat) (w : World) (hl : IntSl w A l) (hn : l.length ≤ 10000) (hA : A = none → c = 0) : Calls Try.prog 44 #[.slice A l.length c] w (CloPost l w) := by
  cases A with
  | none =>
    have hc := hA rfl
    have h0 : l = [] := by
      cases l with
      | nil => rfl
      | cons x m => obtain ⟨b, off, e, _⟩ := hl.2 (by simp); cases e
    subst hc h0
    clear hl hA
    have EQ : ∀ W : World, (binOp BinOp.eql 22 (.slice none 0 0) (.slice none 0 0)).run Try.prog W = .ok (.bool true) W := fun W => by rfl
    show Calls Try.prog 44 #[.slice none 0 0] w _
    go_enter Try.func44, Try.ntmps44
    go_wp2
    go_ret
    exact ⟨Below.refl _ _, none, 0, rfl, IntSl.nil _ _, Nat.le_refl _, fun a h => by cases h⟩
  | some a =>
    have RD : Reads w w.heap.size 1 (some a) l.length (l.map (Value.int .i64)) := by
      refine ⟨by simp, fun h0 => ?_⟩
      obtain ⟨b, off, e, hb, hat⟩ := hl.2 h0
      refine ⟨_, e, hb, fun j u hu => ?_⟩
      have hj : j < l.length := by have := (List.getElem?_eq_some_iff.1 hu).1; simpa using this
      rw [show (⟨b, off, none⟩ : Addr).add j = ⟨b, off + j, none⟩ by unfold Addr.add; split <;> simp_all, hat j hj]
      simpa [hj] using hu
    have RD2 : Reads (w.alloc (.cells #[] 3)) w.heap.size 1 (some a) l.length (l.map (Value.int .i64)) := by
      refine ⟨RD.1, fun h0 => ?_⟩
      obtain ⟨ad, e, hb, hc⟩ := RD.2 h0
      refine ⟨ad, e, hb, fun j u hu => ?_⟩
      have hk : (ad.add j).block = ad.block := by unfold Addr.add; split <;> rfl
      exact (((Below.refl w.heap.size w).alloc (Nat.le_refl _) (.cells #[] 3)).cell (p := ad.add j) (by rw [hk]; exact hb)).trans (hc j u hu)
    have RH := hide RD2
    have HL := hide hl.1
    have RW := hide (World.ownsRow_lit (base := w.heap.size) (e := 3) (size := 1) w #[] 0 (Nat.le_refl _) (Nat.zero_le _) rfl)
    obtain ⟨i0, hi0, hz0, hz1, hz2⟩ := info_parts int_info17
    have f4 : ∀ u ∈ l.map (Value.int .i64), u.oneCell' = true := by intro u hu; obtain ⟨x, _, rfl⟩ := List.mem_map.1 hu; rfl
    have f1 : 0 + l.length ≤ maxLen := by unfold maxLen; omega
    have f2 : (0 + l.length) * 8 ≤ 140737488355328 := by omega
    have f3 : w.heap.size ≤ (w.alloc (.cells #[] 3)).heap.size := by simp
    have EQ : ∀ W : World, (binOp BinOp.eql 22 (.slice (some a) l.length c) (.slice none 0 0)).run Try.prog W = .ok (.bool false) W := fun W => by rfl
    clear RD RD2 hl hA
    go_enter Try.func44, Try.ntmps44
    go_wp2_with (at_builtin; refine wpList_append_any _ rfl _ _ 22 rfl w.heap.size 3 i0 (.int .i64 0) 1 8 Try.underlying22 hi0 hz0 hz1 hz2 rfl (by decide) _ 0 [] rfl RW.out w.heap.size (some a) l.length c (l.map (Value.int .i64)) rfl RH.out f4 f1 f2 f3 ?_; intro v4 w4 hown4 hgrow hor)
    have B5 : Below w.heap.size w w4 := ((Below.refl _ _).alloc (Nat.le_refl _) (.cells #[] 3)).grown hgrow f3 (fun k hk => (RW.out.lt k hk).1)
    rw [Nat.zero_add, List.nil_append] at hown4
    obtain ⟨A', c', rfl, hs⟩ := IntSl.of_row hown4 HL.out.1 HL.out.2
    have hcp : l.length ≤ c' := by
      rcases hown4.2 with ⟨e', h0⟩ | ⟨g, cap, cur, e', _, _, h4, _⟩
      · omega
      · injection e' with e1 e2 e3
        omega
    have hfr : ∀ a, A' = some a → w.heap.size ≤ a.block := fun a ha => (hown4.lt a.block (by simp [Value.ownBlock, ha])).1
    have FIN := hide (And.intro B5 (And.intro hs (And.intro hcp hfr)))
    clear B5 hs hcp hown4 hgrow hor hfr
    go_ret
    exact ⟨FIN.out.1, A', c', rfl, FIN.out.2.1, FIN.out.2.2.1, FIN.out.2.2.2⟩
set_option maxRecDepth 100000 in
set_option maxHeartbeats 2000000 in
theorem window_bad (s : Ser) (a : SerA) (x y : Int) (w : World) (hs : SerSl w s a) (hv : vS s = false) : Calls Try.prog 27 #[s.val a, .int .i64 x, .int .i64 y] w (SerPost Ser0 1 w) := by
  have V := hide (fun W (h : SerSl W s a) => gvalid_any s a W h)
  rw [hv] at V
  have HS := hide hs
  have X := ((Own.start w).alloc (s.cells a) 24).alloc #[.int .i64 0, .int .i64 0, .slice none 0 0] 24
  simp only [World.size_alloc] at X
  clear hs hv
  have hr := X.r2
  go_enter Try.func27, Try.ntmps27
  go_wp2_with fail
  refine (V.out _ (HS.out.below X.1)).mono ?_
  rintro e w1 ⟨rfl, hb⟩
  replace X := X.to hb
  clear hb hr
  have hr := X.r2
  go_wp2
  refine bodyPost_ret (v := .tuple #[.agg #[.int .i64 0, .int .i64 0, .slice none 0 0], .int .i64 1]) ?_ rfl (SerPost.err (by have HX := X.1; have hz := HX.size; go_grown))
  simp [results, Try.results27, hr, go_sem]
set_option maxRecDepth 100000 in
set_option maxHeartbeats 2000000 in
theorem window_range (s : Ser) (a : SerA) (x y : Int) (w : World) (hs : SerSl w s a) (hv : vS s = true) (hk : x < 0 ∨ (0 ≤ x ∧ y < x) ∨ (0 ≤ x ∧ x ≤ y ∧ (s.ds.length : Int) < y)) : Calls Try.prog 27 #[s.val a, .int .i64 x, .int .i64 y] w (SerPost Ser0 2 w) := by
  have V := hide (fun W (h : SerSl W s a) => gvalid_any s a W h)
  rw [hv] at V
  have HS := hide hs
  have X := ((Own.start w).alloc (s.cells a) 24).alloc #[.int .i64 0, .int .i64 0, .slice none 0 0] 24
  simp only [World.size_alloc] at X
  clear hs hv
  have hr := X.r2
  rcases hk with hk | ⟨hk1, hk2⟩ | ⟨hk1, hk2, hk3⟩
  all_goals
    go_enter Try.func27, Try.ntmps27
    go_wp2_with fail
    refine (V.out _ (HS.out.below X.1)).mono ?_
    rintro e w1 ⟨rfl, hb⟩
    replace X := X.to hb
    clear hb hr
    have hr := X.r2
    go_wp2
    refine bodyPost_ret (v := .tuple #[.agg #[.int .i64 0, .int .i64 0, .slice none 0 0], .int .i64 2]) ?_ rfl (SerPost.err (by have HX := X.1; have hz := HX.size; go_grown))
    simp [results, Try.results27, hr, go_sem]
set_option maxRecDepth 100000 in
set_option maxHeartbeats 2000000 in
theorem window_mid (fr st : Int) (l : List Int) (b off : Nat) (c : Nat) (x y : Nat) (w : World) (hs : SerSl w ⟨fr, st, l⟩ ⟨some ⟨b, off, none⟩, c⟩) (hv : vS ⟨fr, st, l⟩ = true) (h1 : x ≤ y) (h2' : y ≤ l.length) (xy : x < y) : Calls Try.prog 27 #[.agg #[.int .i64 fr, .int .i64 st, .slice (some ⟨b, off, none⟩) l.length c], .int .i64 (x : Int), .int .i64 (y : Int)] w (SerPost (winS ⟨fr, st, l⟩ x y) 0 w) := by
  have hcap : l.length ≤ c := hs.2.1
  have V := hide (fun W (h : SerSl W ⟨fr, st, l⟩ ⟨some ⟨b, off, none⟩, c⟩) => gvalid_any ⟨fr, st, l⟩ ⟨some ⟨b, off, none⟩, c⟩ W h)
  rw [hv] at V
  have v := vS_iff.1 hv
  have le : l.length ≤ 10000 := v.le
  have v1 : 1 ≤ st ∧ st ≤ 86400 := v.st
  have vf : -68719476736 ≤ fr ∧ fr ≤ 68719476736 := v.fr
  have ve : -68719476736 ≤ fr + st * (l.length : Int) ∧ fr + st * (l.length : Int) ≤ 68719476736 := v.en
  have p1 : 0 ≤ st * (x : Int) := Int.mul_nonneg (by omega) (by omega)
  have p2 : st * (x : Int) ≤ st * (l.length : Int) := Int.mul_le_mul_of_nonneg_left (by omega) (by omega)
  have fb : -68719476736 ≤ fr + st * (x : Int) ∧ fr + st * (x : Int) ≤ 68719476736 := by omega
  have HS := hide hs
  have X := ((Own.start w).alloc #[.int .i64 fr, .int .i64 st, .slice (some ⟨b, off, none⟩) l.length c] 24).alloc #[.int .i64 0, .int .i64 0, .slice none 0 0] 24
  simp only [World.size_alloc] at X
  clear hs hv v p1 p2 ve
  have hr := X.r2
  show Calls Try.prog 27 _ w (SerPost ⟨fr + st * (x : Int), st, winL l x y⟩ 0 w)
  obtain ⟨p, hp⟩ : ∃ p, p = st * (x : Int) := ⟨_, rfl⟩
  obtain ⟨q, hq⟩ : ∃ q, q = fr + p := ⟨_, rfl⟩
  rw [← hp, ← hq] at fb
  have w1 : IntKind.i64.wrap (st * (x : Int)) = p := by rw [← hp]; exact IntWalk.i64_in _ (by omega)
  have w2 : IntKind.i64.wrap (fr + p) = q := by rw [← hq]; exact IntWalk.i64_in _ (by omega)
  rw [← hp, ← hq]
  have QH := hide (And.intro hp hq)
  clear hp hq
  have k0 : decide ((x : Int) < 0) = false := decide_eq_false (by omega)
  have k1 : ¬ (x : Int) < 0 := by omega
  have k2 : ¬ (y : Int) < (x : Int) := by omega
  have k3 : ¬ (l.length : Int) < (y : Int) := by omega
  have k4 : decide ((y : Int) < (x : Int)) = false := decide_eq_false (by omega)
  have k5 : decide ((l.length : Int) < (y : Int)) = false := decide_eq_false (by omega)
  have k50 : decide (l.length < y) = false := decide_eq_false (by omega)
  have k40 : decide (y < x) = false := decide_eq_false (by omega)
  have t1 : ((x : Int)).toNat = x := by omega
  have t2 : ((y : Int)).toNat = y := by omega
  have k6 : (x : Int) ≤ (y : Int) := by omega
  have k7 : (y : Int) ≤ (c : Int) := by omega
  have k8 : (0 : Int) ≤ (x : Int) := by omega
  have q1 : ¬ c = x := by omega
  have q2 : ¬ (c : Int) = (x : Int) := by omega
  clear xy
  have WL : (winL l x y).length = y - x := (winL_length (l := l) h1 h2').trans (by omega)
  have CL := fun W h => clo_any (winL l x y) (some ⟨b, off + x, none⟩) (c - x) W h (by omega) (fun h => by cases h)
  rw [WL] at CL
  have CLH := hide CL
  clear CL WL
  go_enter Try.func27, Try.ntmps27
  go_wp2_with fail
  refine (V.out _ (HS.out.below X.1)).mono ?_
  rintro e w1 ⟨rfl, hb⟩
  replace X := X.to hb
  clear hb hr
  have hr := X.r2
  have HI : Hid (IntSl w1 (some ⟨b, off, none⟩) l) := hide (HS.out.below X.1).1
  have FB := hide (show w.heap.size + 1 < w1.heap.size from X.r1.2.2)
  have WI : Hid (IntSl w1 (some ⟨b, off + x, none⟩) (winL l x y)) := hide (HI.out.win h1 h2')
  clear V
  go_wp2_with fail
  go_region_held3 (fun w' => w'.cell? ⟨w.heap.size, 0, none⟩ = some (.int .i64 fr) ∧ w'.cell? ⟨w.heap.size, 1, none⟩ = some (.int .i64 st) ∧ w'.cell? ⟨w.heap.size, 2, none⟩ = some (.slice (some ⟨b, off, none⟩) l.length c)) (go_keep)
    (first | (go_at_call 44; (first | refine (CLH.out _ WI.out).mono ?_ | refine (CLH.out _ (WI.out.below (Below.refl w1.heap.size w1).drew)).mono ?_); rintro e w3 ⟨hb3, A3, c3, rfl, hs3, hc3, hfr3⟩; have Y3 := X.drew.to hb3; have hr3 := Y3.r2; have hz3 := hb3.size))
  have F3 := hide (And.intro hs3 (And.intro hc3 hfr3))
  clear hs3 hc3 hfr3 hb3 hr
  go_wp2
  refine bodyPost_ret (v := .tuple #[.agg #[.int .i64 q, .int .i64 st, .slice A3 (winL l x y).length c3], .int .i64 0]) ?_ rfl ?_
  · simp [results, Try.results27, hr3, go_sem]
  · have hx := Y3.1.size
    have ne : ∀ a, A3 = some a → a.block ≠ w.heap.size + 1 := fun a ha => by
      have h1 : w1.heap.size ≤ a.block := F3.out.2.2 a ha
      have h2 := FB.out
      omega
    exact ⟨below_set (below_set (below_set Y3.1 (by omega) _) (by omega) _) (by omega) _, ⟨A3, c3⟩, rfl, ((F3.out.1.set_ ne 0 _).set_ ne 1 _).set_ ne 2 _, F3.out.2.1, by show -9223372036854775808 ≤ q ∧ q ≤ 9223372036854775807; omega, by show -9223372036854775808 ≤ st ∧ st ≤ 9223372036854775807; omega⟩
set_option maxRecDepth 100000 in
set_option maxHeartbeats 2000000 in
theorem window_nil (fr st : Int) (l : List Int)  (x : Nat) (w : World) (hs : SerSl w ⟨fr, st, l⟩ ⟨none, x⟩) (hv : vS ⟨fr, st, l⟩ = true) (h2' : x ≤ l.length)  : Calls Try.prog 27 #[.agg #[.int .i64 fr, .int .i64 st, .slice (none) l.length x], .int .i64 (x : Int), .int .i64 (x : Int)] w (SerPost (winS ⟨fr, st, l⟩ x x) 0 w) := by
  have h1 : x ≤ x := Nat.le_refl _
  have hcap : l.length ≤ x := hs.2.1
  have V := hide (fun W (h : SerSl W ⟨fr, st, l⟩ ⟨none, x⟩) => gvalid_any ⟨fr, st, l⟩ ⟨none, x⟩ W h)
  rw [hv] at V
  have v := vS_iff.1 hv
  have le : l.length ≤ 10000 := v.le
  have v1 : 1 ≤ st ∧ st ≤ 86400 := v.st
  have vf : -68719476736 ≤ fr ∧ fr ≤ 68719476736 := v.fr
  have ve : -68719476736 ≤ fr + st * (l.length : Int) ∧ fr + st * (l.length : Int) ≤ 68719476736 := v.en
  have p1 : 0 ≤ st * (x : Int) := Int.mul_nonneg (by omega) (by omega)
  have p2 : st * (x : Int) ≤ st * (l.length : Int) := Int.mul_le_mul_of_nonneg_left (by omega) (by omega)
  have fb : -68719476736 ≤ fr + st * (x : Int) ∧ fr + st * (x : Int) ≤ 68719476736 := by omega
  have HS := hide hs
  have X := ((Own.start w).alloc #[.int .i64 fr, .int .i64 st, .slice (none) l.length x] 24).alloc #[.int .i64 0, .int .i64 0, .slice none 0 0] 24
  simp only [World.size_alloc] at X
  clear hs hv v p1 p2 ve
  have hr := X.r2
  show Calls Try.prog 27 _ w (SerPost ⟨fr + st * (x : Int), st, winL l x x⟩ 0 w)
  obtain ⟨p, hp⟩ : ∃ p, p = st * (x : Int) := ⟨_, rfl⟩
  obtain ⟨q, hq⟩ : ∃ q, q = fr + p := ⟨_, rfl⟩
  rw [← hp, ← hq] at fb
  have w1 : IntKind.i64.wrap (st * (x : Int)) = p := by rw [← hp]; exact IntWalk.i64_in _ (by omega)
  have w2 : IntKind.i64.wrap (fr + p) = q := by rw [← hq]; exact IntWalk.i64_in _ (by omega)
  rw [← hp, ← hq]
  have QH := hide (And.intro hp hq)
  clear hp hq
  have k0 : decide ((x : Int) < 0) = false := decide_eq_false (by omega)
  have k1 : ¬ (x : Int) < 0 := by omega
  have k2 : ¬ (x : Int) < (x : Int) := by omega
  have k3 : ¬ (l.length : Int) < (x : Int) := by omega
  have k4 : decide ((x : Int) < (x : Int)) = false := decide_eq_false (by omega)
  have k5 : decide ((l.length : Int) < (x : Int)) = false := decide_eq_false (by omega)
  have k50 : decide (l.length < x) = false := decide_eq_false (by omega)
  have k40 : decide (x < x) = false := decide_eq_false (by omega)
  have t1 : ((x : Int)).toNat = x := by omega
  have t2 : ((x : Int)).toNat = x := by omega
  have k6 : (x : Int) ≤ (x : Int) := by omega
  have k7 : (x : Int) ≤ (x : Int) := by omega
  have k8 : (0 : Int) ≤ (x : Int) := by omega
  have t9 : x - x = 0 := by omega
  have WL : (winL l x x).length = 0 := (winL_length (l := l) h1 h2').trans (by omega)
  have CL := fun W h => clo_any (winL l x x) (none) (0) W h (by omega) (fun _ => rfl)
  rw [WL] at CL
  have CLH := hide CL
  clear CL WL
  go_enter Try.func27, Try.ntmps27
  go_wp2_with fail
  refine (V.out _ (HS.out.below X.1)).mono ?_
  rintro e w1 ⟨rfl, hb⟩
  replace X := X.to hb
  clear hb hr
  have hr := X.r2
  have FB := hide (show w.heap.size + 1 < w1.heap.size from X.r1.2.2)
  have WI : Hid (IntSl w1 (none) (winL l x x)) := hide (by rw [show winL l x x = [] by simp [winL]]; exact IntSl.nil _ _)
  clear V
  go_wp2_with fail
  go_region_held3 (fun w' => w'.cell? ⟨w.heap.size, 0, none⟩ = some (.int .i64 fr) ∧ w'.cell? ⟨w.heap.size, 1, none⟩ = some (.int .i64 st) ∧ w'.cell? ⟨w.heap.size, 2, none⟩ = some (.slice (none) l.length x)) (go_keep)
    (first | (go_at_call 44; (first | refine (CLH.out _ WI.out).mono ?_ | refine (CLH.out _ (WI.out.below (Below.refl w1.heap.size w1).drew)).mono ?_); rintro e w3 ⟨hb3, A3, c3, rfl, hs3, hc3, hfr3⟩; have Y3 := X.drew.to hb3; have hr3 := Y3.r2; have hz3 := hb3.size))
  have F3 := hide (And.intro hs3 (And.intro hc3 hfr3))
  clear hs3 hc3 hfr3 hb3 hr
  go_wp2
  refine bodyPost_ret (v := .tuple #[.agg #[.int .i64 q, .int .i64 st, .slice A3 (winL l x x).length c3], .int .i64 0]) ?_ rfl ?_
  · simp [results, Try.results27, hr3, go_sem]
  · have hx := Y3.1.size
    have ne : ∀ a, A3 = some a → a.block ≠ w.heap.size + 1 := fun a ha => by
      have h1 : w1.heap.size ≤ a.block := F3.out.2.2 a ha
      have h2 := FB.out
      omega
    exact ⟨below_set (below_set (below_set Y3.1 (by omega) _) (by omega) _) (by omega) _, ⟨A3, c3⟩, rfl, ((F3.out.1.set_ ne 0 _).set_ ne 1 _).set_ ne 2 _, F3.out.2.1, by show -9223372036854775808 ≤ q ∧ q ≤ 9223372036854775807; omega, by show -9223372036854775808 ≤ st ∧ st ≤ 9223372036854775807; omega⟩
set_option maxRecDepth 100000 in
set_option maxHeartbeats 2000000 in
theorem window_emp (fr st : Int) (l : List Int) (ad : Addr) (x : Nat) (w : World) (hs : SerSl w ⟨fr, st, l⟩ ⟨some ad, x⟩) (hv : vS ⟨fr, st, l⟩ = true) (h2' : x ≤ l.length)  : Calls Try.prog 27 #[.agg #[.int .i64 fr, .int .i64 st, .slice (some ad) l.length x], .int .i64 (x : Int), .int .i64 (x : Int)] w (SerPost (winS ⟨fr, st, l⟩ x x) 0 w) := by
  have h1 : x ≤ x := Nat.le_refl _
  have hcap : l.length ≤ x := hs.2.1
  have V := hide (fun W (h : SerSl W ⟨fr, st, l⟩ ⟨some ad, x⟩) => gvalid_any ⟨fr, st, l⟩ ⟨some ad, x⟩ W h)
  rw [hv] at V
  have v := vS_iff.1 hv
  have le : l.length ≤ 10000 := v.le
  have v1 : 1 ≤ st ∧ st ≤ 86400 := v.st
  have vf : -68719476736 ≤ fr ∧ fr ≤ 68719476736 := v.fr
  have ve : -68719476736 ≤ fr + st * (l.length : Int) ∧ fr + st * (l.length : Int) ≤ 68719476736 := v.en
  have p1 : 0 ≤ st * (x : Int) := Int.mul_nonneg (by omega) (by omega)
  have p2 : st * (x : Int) ≤ st * (l.length : Int) := Int.mul_le_mul_of_nonneg_left (by omega) (by omega)
  have fb : -68719476736 ≤ fr + st * (x : Int) ∧ fr + st * (x : Int) ≤ 68719476736 := by omega
  have HS := hide hs
  have X := ((Own.start w).alloc #[.int .i64 fr, .int .i64 st, .slice (some ad) l.length x] 24).alloc #[.int .i64 0, .int .i64 0, .slice none 0 0] 24
  simp only [World.size_alloc] at X
  clear hs hv v p1 p2 ve
  have hr := X.r2
  show Calls Try.prog 27 _ w (SerPost ⟨fr + st * (x : Int), st, winL l x x⟩ 0 w)
  obtain ⟨p, hp⟩ : ∃ p, p = st * (x : Int) := ⟨_, rfl⟩
  obtain ⟨q, hq⟩ : ∃ q, q = fr + p := ⟨_, rfl⟩
  rw [← hp, ← hq] at fb
  have w1 : IntKind.i64.wrap (st * (x : Int)) = p := by rw [← hp]; exact IntWalk.i64_in _ (by omega)
  have w2 : IntKind.i64.wrap (fr + p) = q := by rw [← hq]; exact IntWalk.i64_in _ (by omega)
  rw [← hp, ← hq]
  have QH := hide (And.intro hp hq)
  clear hp hq
  have k0 : decide ((x : Int) < 0) = false := decide_eq_false (by omega)
  have k1 : ¬ (x : Int) < 0 := by omega
  have k2 : ¬ (x : Int) < (x : Int) := by omega
  have k3 : ¬ (l.length : Int) < (x : Int) := by omega
  have k4 : decide ((x : Int) < (x : Int)) = false := decide_eq_false (by omega)
  have k5 : decide ((l.length : Int) < (x : Int)) = false := decide_eq_false (by omega)
  have k50 : decide (l.length < x) = false := decide_eq_false (by omega)
  have k40 : decide (x < x) = false := decide_eq_false (by omega)
  have t1 : ((x : Int)).toNat = x := by omega
  have t2 : ((x : Int)).toNat = x := by omega
  have k6 : (x : Int) ≤ (x : Int) := by omega
  have k7 : (x : Int) ≤ (x : Int) := by omega
  have k8 : (0 : Int) ≤ (x : Int) := by omega
  have t9 : x - x = 0 := by omega
  have q9 : l.length = x := by omega
  have Q9 := hide q9
  clear q9
  have WL : (winL l x x).length = 0 := (winL_length (l := l) h1 h2').trans (by omega)
  have CL := fun W h => clo_any (winL l x x) (some ad) (0) W h (by omega) (fun h => by cases h)
  rw [WL] at CL
  have CLH := hide CL
  clear CL WL
  go_enter Try.func27, Try.ntmps27
  go_wp2_with fail
  refine (V.out _ (HS.out.below X.1)).mono ?_
  rintro e w1 ⟨rfl, hb⟩
  replace X := X.to hb
  clear hb hr
  have hr := X.r2
  have FB := hide (show w.heap.size + 1 < w1.heap.size from X.r1.2.2)
  have WI : Hid (IntSl w1 (some ad) (winL l x x)) := hide (by rw [show winL l x x = [] by simp [winL]]; exact IntSl.nil _ _)
  clear V
  go_wp2_with fail
  go_region_held3 (fun w' => w'.cell? ⟨w.heap.size, 0, none⟩ = some (.int .i64 fr) ∧ w'.cell? ⟨w.heap.size, 1, none⟩ = some (.int .i64 st) ∧ w'.cell? ⟨w.heap.size, 2, none⟩ = some (.slice (some ad) l.length x)) (go_keep)
    (first | (go_at_call 44; (first | refine (CLH.out _ WI.out).mono ?_ | refine (CLH.out _ (WI.out.below (Below.refl w1.heap.size w1).drew)).mono ?_); rintro e w3 ⟨hb3, A3, c3, rfl, hs3, hc3, hfr3⟩; have Y3 := X.drew.to hb3; have hr3 := Y3.r2; have hz3 := hb3.size))
  have F3 := hide (And.intro hs3 (And.intro hc3 hfr3))
  clear hs3 hc3 hfr3 hb3 hr
  go_wp2
  refine bodyPost_ret (v := .tuple #[.agg #[.int .i64 q, .int .i64 st, .slice A3 (winL l x x).length c3], .int .i64 0]) ?_ rfl ?_
  · simp [results, Try.results27, hr3, go_sem]
  · have hx := Y3.1.size
    have ne : ∀ a, A3 = some a → a.block ≠ w.heap.size + 1 := fun a ha => by
      have h1 : w1.heap.size ≤ a.block := F3.out.2.2 a ha
      have h2 := FB.out
      omega
    exact ⟨below_set (below_set (below_set Y3.1 (by omega) _) (by omega) _) (by omega) _, ⟨A3, c3⟩, rfl, ((F3.out.1.set_ ne 0 _).set_ ne 1 _).set_ ne 2 _, F3.out.2.1, by show -9223372036854775808 ≤ q ∧ q ≤ 9223372036854775807; omega, by show -9223372036854775808 ≤ st ∧ st ≤ 9223372036854775807; omega⟩
set_option maxRecDepth 100000 in
set_option maxHeartbeats 2000000 in
theorem window_room (fr st : Int) (l : List Int) (ad : Addr) (c : Nat) (x y : Nat) (w : World) (hs : SerSl w ⟨fr, st, l⟩ ⟨some ad, c⟩) (hv : vS ⟨fr, st, l⟩ = true) (h1 : x ≤ y) (h2' : y ≤ l.length) (xy0 : x = y) (hc : ¬ c = x) : Calls Try.prog 27 #[.agg #[.int .i64 fr, .int .i64 st, .slice (some ad) l.length c], .int .i64 (x : Int), .int .i64 (y : Int)] w (SerPost (winS ⟨fr, st, l⟩ x y) 0 w) := by
  have hcap : l.length ≤ c := hs.2.1
  have V := hide (fun W (h : SerSl W ⟨fr, st, l⟩ ⟨some ad, c⟩) => gvalid_any ⟨fr, st, l⟩ ⟨some ad, c⟩ W h)
  rw [hv] at V
  have v := vS_iff.1 hv
  have le : l.length ≤ 10000 := v.le
  have v1 : 1 ≤ st ∧ st ≤ 86400 := v.st
  have vf : -68719476736 ≤ fr ∧ fr ≤ 68719476736 := v.fr
  have ve : -68719476736 ≤ fr + st * (l.length : Int) ∧ fr + st * (l.length : Int) ≤ 68719476736 := v.en
  have p1 : 0 ≤ st * (x : Int) := Int.mul_nonneg (by omega) (by omega)
  have p2 : st * (x : Int) ≤ st * (l.length : Int) := Int.mul_le_mul_of_nonneg_left (by omega) (by omega)
  have fb : -68719476736 ≤ fr + st * (x : Int) ∧ fr + st * (x : Int) ≤ 68719476736 := by omega
  have HS := hide hs
  have X := ((Own.start w).alloc #[.int .i64 fr, .int .i64 st, .slice (some ad) l.length c] 24).alloc #[.int .i64 0, .int .i64 0, .slice none 0 0] 24
  simp only [World.size_alloc] at X
  clear hs hv v p1 p2 ve
  have hr := X.r2
  show Calls Try.prog 27 _ w (SerPost ⟨fr + st * (x : Int), st, winL l x y⟩ 0 w)
  obtain ⟨p, hp⟩ : ∃ p, p = st * (x : Int) := ⟨_, rfl⟩
  obtain ⟨q, hq⟩ : ∃ q, q = fr + p := ⟨_, rfl⟩
  rw [← hp, ← hq] at fb
  have w1 : IntKind.i64.wrap (st * (x : Int)) = p := by rw [← hp]; exact IntWalk.i64_in _ (by omega)
  have w2 : IntKind.i64.wrap (fr + p) = q := by rw [← hq]; exact IntWalk.i64_in _ (by omega)
  rw [← hp, ← hq]
  have QH := hide (And.intro hp hq)
  clear hp hq
  have k0 : decide ((x : Int) < 0) = false := decide_eq_false (by omega)
  have k1 : ¬ (x : Int) < 0 := by omega
  have k2 : ¬ (y : Int) < (x : Int) := by omega
  have k3 : ¬ (l.length : Int) < (y : Int) := by omega
  have k4 : decide ((y : Int) < (x : Int)) = false := decide_eq_false (by omega)
  have k5 : decide ((l.length : Int) < (y : Int)) = false := decide_eq_false (by omega)
  have k50 : decide (l.length < y) = false := decide_eq_false (by omega)
  have k40 : decide (y < x) = false := decide_eq_false (by omega)
  have t1 : ((x : Int)).toNat = x := by omega
  have t2 : ((y : Int)).toNat = y := by omega
  have k6 : (x : Int) ≤ (y : Int) := by omega
  have k7 : (y : Int) ≤ (c : Int) := by omega
  have k8 : (0 : Int) ≤ (x : Int) := by omega
  have q2 : ¬ (c : Int) = (x : Int) := by omega
  have xy := hide xy0
  have t9 : y - x = 0 := by omega
  clear xy0
  have WL : (winL l x y).length = 0 := (winL_length (l := l) h1 h2').trans (by omega)
  have CL := fun W h => clo_any (winL l x y) (some (ad.add x)) (c - x) W h (by omega) (fun h => by cases h)
  rw [WL] at CL
  have CLH := hide CL
  clear CL WL
  go_enter Try.func27, Try.ntmps27
  go_wp2_with fail
  refine (V.out _ (HS.out.below X.1)).mono ?_
  rintro e w1 ⟨rfl, hb⟩
  replace X := X.to hb
  clear hb hr
  have hr := X.r2
  have FB := hide (show w.heap.size + 1 < w1.heap.size from X.r1.2.2)
  have WI : Hid (IntSl w1 (some (ad.add x)) (winL l x y)) := hide (by rw [show winL l x y = [] by simp [winL, xy.out]]; exact IntSl.nil _ _)
  clear V
  go_wp2_with fail
  go_region_held3 (fun w' => w'.cell? ⟨w.heap.size, 0, none⟩ = some (.int .i64 fr) ∧ w'.cell? ⟨w.heap.size, 1, none⟩ = some (.int .i64 st) ∧ w'.cell? ⟨w.heap.size, 2, none⟩ = some (.slice (some ad) l.length c)) (go_keep)
    (first | (go_at_call 44; (first | refine (CLH.out _ WI.out).mono ?_ | refine (CLH.out _ (WI.out.below (Below.refl w1.heap.size w1).drew)).mono ?_); rintro e w3 ⟨hb3, A3, c3, rfl, hs3, hc3, hfr3⟩; have Y3 := X.drew.to hb3; have hr3 := Y3.r2; have hz3 := hb3.size))
  have F3 := hide (And.intro hs3 (And.intro hc3 hfr3))
  clear hs3 hc3 hfr3 hb3 hr
  go_wp2
  refine bodyPost_ret (v := .tuple #[.agg #[.int .i64 q, .int .i64 st, .slice A3 (winL l x y).length c3], .int .i64 0]) ?_ rfl ?_
  · simp [results, Try.results27, hr3, go_sem]
  · have hx := Y3.1.size
    have ne : ∀ a, A3 = some a → a.block ≠ w.heap.size + 1 := fun a ha => by
      have h1 : w1.heap.size ≤ a.block := F3.out.2.2 a ha
      have h2 := FB.out
      omega
    exact ⟨below_set (below_set (below_set Y3.1 (by omega) _) (by omega) _) (by omega) _, ⟨A3, c3⟩, rfl, ((F3.out.1.set_ ne 0 _).set_ ne 1 _).set_ ne 2 _, F3.out.2.1, by show -9223372036854775808 ≤ q ∧ q ≤ 9223372036854775807; omega, by show -9223372036854775808 ≤ st ∧ st ≤ 9223372036854775807; omega⟩
theorem window_in (s : Ser) (a : SerA) (x y : Nat) (w : World) (hs : SerSl w s a) (hA : a.A = none → a.c = 0) (hv : vS s = true) (h1 : x ≤ y) (h2 : y ≤ s.ds.length) : Calls Try.prog 27 #[s.val a, .int .i64 (x : Int), .int .i64 (y : Int)] w (SerPost (winS s x y) 0 w) := by
  obtain ⟨fr, st, l⟩ := s
  obtain ⟨A, c⟩ := a
  have h2' : y ≤ l.length := h2
  have hcap : l.length ≤ c := hs.2.1
  by_cases hxy : x = y
  · subst hxy
    cases A with
    | none =>
      have hc : c = 0 := hA rfl
      obtain rfl : c = x := by omega
      exact window_nil fr st l c w hs hv h2'
    | some ad =>
      by_cases hc : c = x
      · subst hc
        exact window_emp fr st l ad c w hs hv h2'
      · exact window_room fr st l ad c x x w hs hv h1 h2' rfl hc
  · obtain ⟨b, off, e, _⟩ := hs.1.2 (show 0 < l.length by omega)
    have e' : A = some ⟨b, off, none⟩ := e
    subst e'
    exact window_mid fr st l b off c x y w hs hv h1 h2' (by omega)
end Go.Proofs.Ytkbocphpnmpaeaa
