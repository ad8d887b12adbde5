/- The reference's Window of a valid record (printed by gen_rwin.py). -/
import Derived.Test.YtkbocphpnmpaeaaGgRw0
import Derived.Test.YtkbocphpnmpaeaaGgWin
import Derived.Test.YtkbocphpnmpaeaaGgRm
import Derived.Deep.RegionHeld3
namespace Go.Proofs.Ytkbocphpnmpaeaa
open Go.RowKit

/-- a record of the call's own, alone -/
def RSPost (s : Ser) (w : World) (e : Ending) (w' : World) : Prop := Below w.heap.size w w' ∧ ∃ a : SerA, e = .returned (s.val a) ∧ SerSl w' s a
theorem RSPost.out {fr st : Int} {l : List Int} {w w' : World} {e : Ending} (h : RSPost ⟨fr, st, l⟩ w e w') : Below w.heap.size w w' ∧ ∃ A c, e = .returned (.agg #[.int .i64 fr, .int .i64 st, .slice A l.length c]) ∧ SerSl w' ⟨fr, st, l⟩ ⟨A, c⟩ := by
  obtain ⟨hb, ⟨A, c⟩, e', hs⟩ := h
  exact ⟨hb, A, c, e', hs⟩
theorem Reads.nil (w : World) (B : Nat) (A : Option Addr) : Reads w B 1 A 0 [] := ⟨rfl, fun h => absurd h (by omega)⟩
theorem IntSl.reads {w : World} {A : Option Addr} {l : List Int} (h : IntSl w A l) : Reads w w.heap.size 1 A l.length (l.map (Value.int .i64)) := by
  refine ⟨by simp, fun h0 => ?_⟩
  obtain ⟨b, off, e, hb, hat⟩ := h.2 h0
  refine ⟨_, e, hb, fun j u hu => ?_⟩
  have hj : j < l.length := by have := (List.getElem?_eq_some_iff.1 hu).1; simpa using this
  rw [show (⟨b, off, none⟩ : Addr).add j = ⟨b, off + j, none⟩ by unfold Addr.add; split <;> simp_all, hat j hj]
  simpa [hj] using hu
theorem fin_row {w : World} {B n c : Nat} {A : Option Addr} {L : List Int} (h : w.ownsRow B 3 1 (.slice A n c) n (L.map (Value.int .i64))) (hn : L.length = n) (hb : ∀ i (hi : i < L.length), -9223372036854775808 ≤ L[i] ∧ L[i] ≤ 9223372036854775807) (hl : n ≤ 9223372036854775807 := by omega) : IntSl w A L ∧ L.length ≤ c ∧ ∀ a, A = some a → B ≤ a.block := by
  subst hn
  obtain ⟨A', c', e, hs⟩ := IntSl.of_row h hl hb
  injection e with e1 e2 e3
  subst e1 e3
  refine ⟨hs, ?_, fun a ha => (h.lt a.block (by simp [Value.ownBlock, ha])).1⟩
  rcases h.2 with ⟨e', h0⟩ | ⟨g, cap, cur, e', _, _, h4, _⟩
  · omega
  · injection e' with e1 e2 e3
    omega
set_option maxRecDepth 100000 in
set_option maxHeartbeats 2000000 in
theorem rwindow_mid (fr st : Int) (l : List Int) (b off : Nat) (c : Nat) (x y : Nat) (w : World) (hs : SerSl w ⟨fr, st, l⟩ ⟨some ⟨b, off, none⟩, c⟩) (v : VS ⟨fr, st, l⟩) (h1 : x ≤ y) (h2' : y ≤ l.length) (xy : x < y) : Calls Try.prog 30 #[.agg #[.int .i64 fr, .int .i64 st, .slice (some ⟨b, off, none⟩) l.length c], .int .i64 (x : Int), .int .i64 (y : Int)] w (RSPost (winS ⟨fr, st, l⟩ x y) w) := by
  have hcap : l.length ≤ c := hs.2.1
  have le : l.length ≤ 10000 := v.le
  have v1 : 1 ≤ st ∧ st ≤ 86400 := v.st
  have vf : -68719476736 ≤ fr ∧ fr ≤ 68719476736 := v.fr
  have ve : -68719476736 ≤ fr + st * (l.length : Int) ∧ fr + st * (l.length : Int) ≤ 68719476736 := v.en
  have p1 : 0 ≤ st * (x : Int) := Int.mul_nonneg (by omega) (by omega)
  have p2 : st * (x : Int) ≤ st * (l.length : Int) := Int.mul_le_mul_of_nonneg_left (by omega) (by omega)
  have fb : -68719476736 ≤ fr + st * (x : Int) ∧ fr + st * (x : Int) ≤ 68719476736 := by omega
  have HS := hide hs
  have bd : ∀ i (hi : i < (winL l x y).length), -9223372036854775808 ≤ (winL l x y)[i] ∧ (winL l x y)[i] ≤ 9223372036854775807 := fun i hi => by
    have hi' := hi
    rw [winL_length h1 h2'] at hi'
    have e : (winL l x y)[i] = l.getD (x + i) 0 := by
      have := winL_at (l := l) (a := x) (b := y) (i := i) (by omega)
      simpa [hi] using this
    have hl := v.ok (x + i) (show x + i < l.length by omega)
    have hl' : -1 ≤ l.getD (x + i) 0 ∧ l.getD (x + i) 0 ≤ 4194304 := hl
    rw [e]
    omega
  have BD := hide bd
  have X := ((Own.start w).alloc #[.int .i64 fr, .int .i64 st, .slice (some ⟨b, off, none⟩) l.length c] 24).alloc #[.int .i64 0, .int .i64 0, .slice none 0 0] 24
  simp only [World.size_alloc] at X
  clear hs v p1 p2 ve bd
  have hr := X.r2
  show Calls Try.prog 30 _ w (RSPost ⟨fr + st * (x : Int), st, winL l x y⟩ w)
  obtain ⟨p, hp⟩ : ∃ p, p = st * (x : Int) := ⟨_, rfl⟩
  obtain ⟨q, hq⟩ : ∃ q, q = fr + p := ⟨_, rfl⟩
  rw [← hp, ← hq] at fb
  have w1 : IntKind.i64.wrap (st * (x : Int)) = p := by rw [← hp]; exact IntWalk.i64_in _ (by omega)
  have w2 : IntKind.i64.wrap (fr + p) = q := by rw [← hq]; exact IntWalk.i64_in _ (by omega)
  rw [← hp, ← hq]
  have QH := hide (And.intro hp hq)
  clear hp hq
  have k1 : ¬ (x : Int) < 0 := by omega
  have k2 : ¬ (y : Int) < (x : Int) := by omega
  have k3 : ¬ (l.length : Int) < (y : Int) := by omega
  have t1 : ((x : Int)).toNat = x := by omega
  have t2 : ((y : Int)).toNat = y := by omega
  have k6 : (x : Int) ≤ (y : Int) := by omega
  have k7 : (y : Int) ≤ (c : Int) := by omega
  have k8 : (0 : Int) ≤ (x : Int) := by omega
  have q1 : ¬ c = x := by omega
  have q2 : ¬ (c : Int) = (x : Int) := by omega
  clear xy
  have WL : (winL l x y).length = y - x := (winL_length (l := l) h1 h2').trans (by omega)
  have HI : Hid (IntSl ((w.alloc (.cells #[.int .i64 fr, .int .i64 st, .slice (some ⟨b, off, none⟩) l.length c] 24)).alloc (.cells #[.int .i64 0, .int .i64 0, .slice none 0 0] 24)) (some ⟨b, off, none⟩) l) := hide (HS.out.below X.1).1
  generalize hW : (w.alloc (.cells #[.int .i64 fr, .int .i64 st, .slice (some ⟨b, off, none⟩) l.length c] 24)).alloc (.cells #[.int .i64 0, .int .i64 0, .slice none 0 0] 24) = W at *
  have HWS : W.heap.size = w.heap.size + 2 := by rw [← hW]; simp
  have RD : Reads W W.heap.size 1 (some ⟨b, off + x, none⟩) (y - x) ((winL l x y).map (Value.int .i64)) := by have h := (HI.out.win h1 h2').reads; rw [WL] at h; exact h
  have RH := hide (RD.below ((Below.refl W.heap.size W).drew.alloc (Nat.le_refl W.heap.size) (.cells #[] 3)))
  have RW := hide (World.ownsRow_lit (base := W.heap.size) (e := 3) (size := 1) W.drew #[] 0 (Nat.le_refl W.heap.size) (Nat.zero_le _) rfl)
  have HWL := hide (And.intro WL HWS)
  have HW2 := hide (show w.heap.size ≤ W.heap.size by omega)
  have TY : ∀ z ∈ [(w.heap.size + 1, (24 : TypeId), #[Value.int .i64 0, .int .i64 0, .slice none 0 0]), (w.heap.size, (24 : TypeId), #[Value.int .i64 fr, .int .i64 st, .slice (some ⟨b, off, none⟩) l.length c])], (3 : TypeId) ≠ z.2.1 := fun z hz => by
    simp only [List.mem_cons, List.not_mem_nil, or_false] at hz
    rcases hz with rfl | rfl
    · show (3 : TypeId) ≠ 24; decide
    · show (3 : TypeId) ≠ 24; decide
  obtain ⟨i0, hi0, hz0, hz1, hz2⟩ := info_parts int_info17
  have f4 : ∀ u ∈ (winL l x y).map (Value.int .i64), u.oneCell' = true := by intro u hu; obtain ⟨x, _, rfl⟩ := List.mem_map.1 hu; rfl
  have f1 : 0 + (y - x) ≤ maxLen := by unfold maxLen; omega
  have f2 : (0 + (y - x)) * 8 ≤ 140737488355328 := by omega
  have f3 : W.heap.size ≤ (W.drew.alloc (.cells #[] 3)).heap.size := by rw [World.size_alloc]; show W.heap.size ≤ W.heap.size + 1; omega
  clear RD WL HWS
  go_enter Try.func30, Try.ntmps30
  go_wp2_with fail
  clear hW
  go_region_held3 (fun w' => w'.cell? ⟨w.heap.size, 0, none⟩ = some (.int .i64 fr) ∧ w'.cell? ⟨w.heap.size, 1, none⟩ = some (.int .i64 st) ∧ w'.cell? ⟨w.heap.size, 2, none⟩ = some (.slice (some ⟨b, off, none⟩) l.length c)) (go_keep)
    ((refine step_append_any (w := W.drew.alloc (.cells #[] 3)) (by rfl) _ _ _ (by rfl) W.heap.size 3 i0 _ 1 8 Try.underlying22 hi0 hz0 hz1 hz2 rfl (by omega) _ 0 [] (by rfl) RW.out W.heap.size _ _ _ ((winL l x y).map (Value.int .i64)) (by rfl) RH.out f4 f1 f2 f3 ?_; intro v4 w4 hown4 hgrow hor; rw [Nat.zero_add, List.nil_append] at hown4; obtain ⟨A3, c3, rfl⟩ := row_is hown4; have O4 := hide hown4; have Y4 := hide ((X.drew.to ((Below.refl _ _).alloc (Nat.le_refl _) (.cells #[] 3))).grown (row_mono RW.out HW2.out) hgrow TY); clear hown4 hgrow hor; have hr4 := Y4.out.r2))
  obtain ⟨f5, f6, f7⟩ := fin_row O4.out HWL.out.1 BD.out
  have F3 := hide (And.intro f5 (And.intro f6 f7))
  have FB := hide (show w.heap.size + 1 < W.heap.size by have := HWL.out.2; omega)
  clear f5 f6 f7 hr O4
  go_wp2
  refine bodyPost_ret (v := .agg #[.int .i64 q, .int .i64 st, .slice A3 (y - x) c3]) ?_ rfl ?_
  · simp [results, Try.results30, hr4, go_sem]
  · have ne : ∀ a, A3 = some a → a.block ≠ w.heap.size + 1 := fun a ha => by
      have h1 : W.heap.size ≤ a.block := F3.out.2.2 a ha
      have h2 := FB.out
      omega
    have Z := Y4.out.1
    refine ⟨below_set (below_set (below_set Z (by omega) _) (by omega) _) (by omega) _, ⟨A3, c3⟩, ?_, ((F3.out.1.set_ ne 0 _).set_ ne 1 _).set_ ne 2 _, F3.out.2.1, by show -9223372036854775808 ≤ q ∧ q ≤ 9223372036854775807; omega, by show -9223372036854775808 ≤ st ∧ st ≤ 9223372036854775807; omega⟩
    exact congrArg (fun n => Ending.returned (.agg #[.int .i64 q, .int .i64 st, .slice A3 n c3])) HWL.out.1.symm
set_option maxRecDepth 100000 in
set_option maxHeartbeats 2000000 in
theorem rwindow_nil (fr st : Int) (l : List Int)  (x : Nat) (w : World) (hs : SerSl w ⟨fr, st, l⟩ ⟨none, x⟩) (v : VS ⟨fr, st, l⟩) (h2' : x ≤ l.length)  : Calls Try.prog 30 #[.agg #[.int .i64 fr, .int .i64 st, .slice (none) l.length x], .int .i64 (x : Int), .int .i64 (x : Int)] w (RSPost (winS ⟨fr, st, l⟩ x x) w) := by
  have h1 : x ≤ x := Nat.le_refl _
  have hcap : l.length ≤ x := hs.2.1
  have le : l.length ≤ 10000 := v.le
  have v1 : 1 ≤ st ∧ st ≤ 86400 := v.st
  have vf : -68719476736 ≤ fr ∧ fr ≤ 68719476736 := v.fr
  have ve : -68719476736 ≤ fr + st * (l.length : Int) ∧ fr + st * (l.length : Int) ≤ 68719476736 := v.en
  have p1 : 0 ≤ st * (x : Int) := Int.mul_nonneg (by omega) (by omega)
  have p2 : st * (x : Int) ≤ st * (l.length : Int) := Int.mul_le_mul_of_nonneg_left (by omega) (by omega)
  have fb : -68719476736 ≤ fr + st * (x : Int) ∧ fr + st * (x : Int) ≤ 68719476736 := by omega
  have HS := hide hs
  have bd : ∀ i (hi : i < (winL l x x).length), -9223372036854775808 ≤ (winL l x x)[i] ∧ (winL l x x)[i] ≤ 9223372036854775807 := fun i hi => by
    have hi' := hi
    rw [winL_length h1 h2'] at hi'
    have e : (winL l x x)[i] = l.getD (x + i) 0 := by
      have := winL_at (l := l) (a := x) (b := x) (i := i) (by omega)
      simpa [hi] using this
    have hl := v.ok (x + i) (show x + i < l.length by omega)
    have hl' : -1 ≤ l.getD (x + i) 0 ∧ l.getD (x + i) 0 ≤ 4194304 := hl
    rw [e]
    omega
  have BD := hide bd
  have X := ((Own.start w).alloc #[.int .i64 fr, .int .i64 st, .slice (none) l.length x] 24).alloc #[.int .i64 0, .int .i64 0, .slice none 0 0] 24
  simp only [World.size_alloc] at X
  clear hs v p1 p2 ve bd
  have hr := X.r2
  show Calls Try.prog 30 _ w (RSPost ⟨fr + st * (x : Int), st, winL l x x⟩ w)
  obtain ⟨p, hp⟩ : ∃ p, p = st * (x : Int) := ⟨_, rfl⟩
  obtain ⟨q, hq⟩ : ∃ q, q = fr + p := ⟨_, rfl⟩
  rw [← hp, ← hq] at fb
  have w1 : IntKind.i64.wrap (st * (x : Int)) = p := by rw [← hp]; exact IntWalk.i64_in _ (by omega)
  have w2 : IntKind.i64.wrap (fr + p) = q := by rw [← hq]; exact IntWalk.i64_in _ (by omega)
  rw [← hp, ← hq]
  have QH := hide (And.intro hp hq)
  clear hp hq
  have k1 : ¬ (x : Int) < 0 := by omega
  have k2 : ¬ (x : Int) < (x : Int) := by omega
  have k3 : ¬ (l.length : Int) < (x : Int) := by omega
  have t1 : ((x : Int)).toNat = x := by omega
  have t2 : ((x : Int)).toNat = x := by omega
  have k6 : (x : Int) ≤ (x : Int) := by omega
  have k7 : (x : Int) ≤ (x : Int) := by omega
  have k8 : (0 : Int) ≤ (x : Int) := by omega
  have t9 : x - x = 0 := by omega
  have WL : (winL l x x).length = 0 := (winL_length (l := l) h1 h2').trans (by omega)
  have HI : Hid (IntSl ((w.alloc (.cells #[.int .i64 fr, .int .i64 st, .slice (none) l.length x] 24)).alloc (.cells #[.int .i64 0, .int .i64 0, .slice none 0 0] 24)) (none) l) := hide (HS.out.below X.1).1
  generalize hW : (w.alloc (.cells #[.int .i64 fr, .int .i64 st, .slice (none) l.length x] 24)).alloc (.cells #[.int .i64 0, .int .i64 0, .slice none 0 0] 24) = W at *
  have HWS : W.heap.size = w.heap.size + 2 := by rw [← hW]; simp
  have RD : Reads W W.heap.size 1 (none) (0) ((winL l x x).map (Value.int .i64)) := by rw [show winL l x x = [] by simp [winL]]; exact Reads.nil _ _ _
  have RH := hide (RD.below ((Below.refl W.heap.size W).drew.alloc (Nat.le_refl W.heap.size) (.cells #[] 3)))
  have RW := hide (World.ownsRow_lit (base := W.heap.size) (e := 3) (size := 1) W.drew #[] 0 (Nat.le_refl W.heap.size) (Nat.zero_le _) rfl)
  have HWL := hide (And.intro WL HWS)
  have HW2 := hide (show w.heap.size ≤ W.heap.size by omega)
  have TY : ∀ z ∈ [(w.heap.size + 1, (24 : TypeId), #[Value.int .i64 0, .int .i64 0, .slice none 0 0]), (w.heap.size, (24 : TypeId), #[Value.int .i64 fr, .int .i64 st, .slice (none) l.length x])], (3 : TypeId) ≠ z.2.1 := fun z hz => by
    simp only [List.mem_cons, List.not_mem_nil, or_false] at hz
    rcases hz with rfl | rfl
    · show (3 : TypeId) ≠ 24; decide
    · show (3 : TypeId) ≠ 24; decide
  obtain ⟨i0, hi0, hz0, hz1, hz2⟩ := info_parts int_info17
  have f4 : ∀ u ∈ (winL l x x).map (Value.int .i64), u.oneCell' = true := by intro u hu; obtain ⟨x, _, rfl⟩ := List.mem_map.1 hu; rfl
  have f1 : 0 + (0) ≤ maxLen := by unfold maxLen; omega
  have f2 : (0 + (0)) * 8 ≤ 140737488355328 := by omega
  have f3 : W.heap.size ≤ (W.drew.alloc (.cells #[] 3)).heap.size := by rw [World.size_alloc]; show W.heap.size ≤ W.heap.size + 1; omega
  clear RD WL HWS
  go_enter Try.func30, Try.ntmps30
  go_wp2_with fail
  clear hW
  go_region_held3 (fun w' => w'.cell? ⟨w.heap.size, 0, none⟩ = some (.int .i64 fr) ∧ w'.cell? ⟨w.heap.size, 1, none⟩ = some (.int .i64 st) ∧ w'.cell? ⟨w.heap.size, 2, none⟩ = some (.slice (none) l.length x)) (go_keep)
    ((refine step_append_any (w := W.drew.alloc (.cells #[] 3)) (by rfl) _ _ _ (by rfl) W.heap.size 3 i0 _ 1 8 Try.underlying22 hi0 hz0 hz1 hz2 rfl (by omega) _ 0 [] (by rfl) RW.out W.heap.size _ _ _ ((winL l x x).map (Value.int .i64)) (by rfl) RH.out f4 f1 f2 f3 ?_; intro v4 w4 hown4 hgrow hor; rw [Nat.zero_add, List.nil_append] at hown4; obtain ⟨A3, c3, rfl⟩ := row_is hown4; have O4 := hide hown4; have Y4 := hide ((X.drew.to ((Below.refl _ _).alloc (Nat.le_refl _) (.cells #[] 3))).grown (row_mono RW.out HW2.out) hgrow TY); clear hown4 hgrow hor; have hr4 := Y4.out.r2))
  obtain ⟨f5, f6, f7⟩ := fin_row O4.out HWL.out.1 BD.out
  have F3 := hide (And.intro f5 (And.intro f6 f7))
  have FB := hide (show w.heap.size + 1 < W.heap.size by have := HWL.out.2; omega)
  clear f5 f6 f7 hr O4
  go_wp2
  refine bodyPost_ret (v := .agg #[.int .i64 q, .int .i64 st, .slice A3 (0) c3]) ?_ rfl ?_
  · simp [results, Try.results30, hr4, go_sem]
  · have ne : ∀ a, A3 = some a → a.block ≠ w.heap.size + 1 := fun a ha => by
      have h1 : W.heap.size ≤ a.block := F3.out.2.2 a ha
      have h2 := FB.out
      omega
    have Z := Y4.out.1
    refine ⟨below_set (below_set (below_set Z (by omega) _) (by omega) _) (by omega) _, ⟨A3, c3⟩, ?_, ((F3.out.1.set_ ne 0 _).set_ ne 1 _).set_ ne 2 _, F3.out.2.1, by show -9223372036854775808 ≤ q ∧ q ≤ 9223372036854775807; omega, by show -9223372036854775808 ≤ st ∧ st ≤ 9223372036854775807; omega⟩
    exact congrArg (fun n => Ending.returned (.agg #[.int .i64 q, .int .i64 st, .slice A3 n c3])) HWL.out.1.symm
set_option maxRecDepth 100000 in
set_option maxHeartbeats 2000000 in
theorem rwindow_emp (fr st : Int) (l : List Int) (ad : Addr) (x : Nat) (w : World) (hs : SerSl w ⟨fr, st, l⟩ ⟨some ad, x⟩) (v : VS ⟨fr, st, l⟩) (h2' : x ≤ l.length)  : Calls Try.prog 30 #[.agg #[.int .i64 fr, .int .i64 st, .slice (some ad) l.length x], .int .i64 (x : Int), .int .i64 (x : Int)] w (RSPost (winS ⟨fr, st, l⟩ x x) w) := by
  have h1 : x ≤ x := Nat.le_refl _
  have hcap : l.length ≤ x := hs.2.1
  have le : l.length ≤ 10000 := v.le
  have v1 : 1 ≤ st ∧ st ≤ 86400 := v.st
  have vf : -68719476736 ≤ fr ∧ fr ≤ 68719476736 := v.fr
  have ve : -68719476736 ≤ fr + st * (l.length : Int) ∧ fr + st * (l.length : Int) ≤ 68719476736 := v.en
  have p1 : 0 ≤ st * (x : Int) := Int.mul_nonneg (by omega) (by omega)
  have p2 : st * (x : Int) ≤ st * (l.length : Int) := Int.mul_le_mul_of_nonneg_left (by omega) (by omega)
  have fb : -68719476736 ≤ fr + st * (x : Int) ∧ fr + st * (x : Int) ≤ 68719476736 := by omega
  have HS := hide hs
  have bd : ∀ i (hi : i < (winL l x x).length), -9223372036854775808 ≤ (winL l x x)[i] ∧ (winL l x x)[i] ≤ 9223372036854775807 := fun i hi => by
    have hi' := hi
    rw [winL_length h1 h2'] at hi'
    have e : (winL l x x)[i] = l.getD (x + i) 0 := by
      have := winL_at (l := l) (a := x) (b := x) (i := i) (by omega)
      simpa [hi] using this
    have hl := v.ok (x + i) (show x + i < l.length by omega)
    have hl' : -1 ≤ l.getD (x + i) 0 ∧ l.getD (x + i) 0 ≤ 4194304 := hl
    rw [e]
    omega
  have BD := hide bd
  have X := ((Own.start w).alloc #[.int .i64 fr, .int .i64 st, .slice (some ad) l.length x] 24).alloc #[.int .i64 0, .int .i64 0, .slice none 0 0] 24
  simp only [World.size_alloc] at X
  clear hs v p1 p2 ve bd
  have hr := X.r2
  show Calls Try.prog 30 _ w (RSPost ⟨fr + st * (x : Int), st, winL l x x⟩ w)
  obtain ⟨p, hp⟩ : ∃ p, p = st * (x : Int) := ⟨_, rfl⟩
  obtain ⟨q, hq⟩ : ∃ q, q = fr + p := ⟨_, rfl⟩
  rw [← hp, ← hq] at fb
  have w1 : IntKind.i64.wrap (st * (x : Int)) = p := by rw [← hp]; exact IntWalk.i64_in _ (by omega)
  have w2 : IntKind.i64.wrap (fr + p) = q := by rw [← hq]; exact IntWalk.i64_in _ (by omega)
  rw [← hp, ← hq]
  have QH := hide (And.intro hp hq)
  clear hp hq
  have k1 : ¬ (x : Int) < 0 := by omega
  have k2 : ¬ (x : Int) < (x : Int) := by omega
  have k3 : ¬ (l.length : Int) < (x : Int) := by omega
  have t1 : ((x : Int)).toNat = x := by omega
  have t2 : ((x : Int)).toNat = x := by omega
  have k6 : (x : Int) ≤ (x : Int) := by omega
  have k7 : (x : Int) ≤ (x : Int) := by omega
  have k8 : (0 : Int) ≤ (x : Int) := by omega
  have t9 : x - x = 0 := by omega
  have q9 : l.length = x := by omega
  have Q9 := hide q9
  clear q9
  have WL : (winL l x x).length = 0 := (winL_length (l := l) h1 h2').trans (by omega)
  have HI : Hid (IntSl ((w.alloc (.cells #[.int .i64 fr, .int .i64 st, .slice (some ad) l.length x] 24)).alloc (.cells #[.int .i64 0, .int .i64 0, .slice none 0 0] 24)) (some ad) l) := hide (HS.out.below X.1).1
  generalize hW : (w.alloc (.cells #[.int .i64 fr, .int .i64 st, .slice (some ad) l.length x] 24)).alloc (.cells #[.int .i64 0, .int .i64 0, .slice none 0 0] 24) = W at *
  have HWS : W.heap.size = w.heap.size + 2 := by rw [← hW]; simp
  have RD : Reads W W.heap.size 1 (some ad) (0) ((winL l x x).map (Value.int .i64)) := by rw [show winL l x x = [] by simp [winL]]; exact Reads.nil _ _ _
  have RH := hide (RD.below ((Below.refl W.heap.size W).drew.alloc (Nat.le_refl W.heap.size) (.cells #[] 3)))
  have RW := hide (World.ownsRow_lit (base := W.heap.size) (e := 3) (size := 1) W.drew #[] 0 (Nat.le_refl W.heap.size) (Nat.zero_le _) rfl)
  have HWL := hide (And.intro WL HWS)
  have HW2 := hide (show w.heap.size ≤ W.heap.size by omega)
  have TY : ∀ z ∈ [(w.heap.size + 1, (24 : TypeId), #[Value.int .i64 0, .int .i64 0, .slice none 0 0]), (w.heap.size, (24 : TypeId), #[Value.int .i64 fr, .int .i64 st, .slice (some ad) l.length x])], (3 : TypeId) ≠ z.2.1 := fun z hz => by
    simp only [List.mem_cons, List.not_mem_nil, or_false] at hz
    rcases hz with rfl | rfl
    · show (3 : TypeId) ≠ 24; decide
    · show (3 : TypeId) ≠ 24; decide
  obtain ⟨i0, hi0, hz0, hz1, hz2⟩ := info_parts int_info17
  have f4 : ∀ u ∈ (winL l x x).map (Value.int .i64), u.oneCell' = true := by intro u hu; obtain ⟨x, _, rfl⟩ := List.mem_map.1 hu; rfl
  have f1 : 0 + (0) ≤ maxLen := by unfold maxLen; omega
  have f2 : (0 + (0)) * 8 ≤ 140737488355328 := by omega
  have f3 : W.heap.size ≤ (W.drew.alloc (.cells #[] 3)).heap.size := by rw [World.size_alloc]; show W.heap.size ≤ W.heap.size + 1; omega
  clear RD WL HWS
  go_enter Try.func30, Try.ntmps30
  go_wp2_with fail
  clear hW
  go_region_held3 (fun w' => w'.cell? ⟨w.heap.size, 0, none⟩ = some (.int .i64 fr) ∧ w'.cell? ⟨w.heap.size, 1, none⟩ = some (.int .i64 st) ∧ w'.cell? ⟨w.heap.size, 2, none⟩ = some (.slice (some ad) l.length x)) (go_keep)
    ((refine step_append_any (w := W.drew.alloc (.cells #[] 3)) (by rfl) _ _ _ (by rfl) W.heap.size 3 i0 _ 1 8 Try.underlying22 hi0 hz0 hz1 hz2 rfl (by omega) _ 0 [] (by rfl) RW.out W.heap.size _ _ _ ((winL l x x).map (Value.int .i64)) (by rfl) RH.out f4 f1 f2 f3 ?_; intro v4 w4 hown4 hgrow hor; rw [Nat.zero_add, List.nil_append] at hown4; obtain ⟨A3, c3, rfl⟩ := row_is hown4; have O4 := hide hown4; have Y4 := hide ((X.drew.to ((Below.refl _ _).alloc (Nat.le_refl _) (.cells #[] 3))).grown (row_mono RW.out HW2.out) hgrow TY); clear hown4 hgrow hor; have hr4 := Y4.out.r2))
  obtain ⟨f5, f6, f7⟩ := fin_row O4.out HWL.out.1 BD.out
  have F3 := hide (And.intro f5 (And.intro f6 f7))
  have FB := hide (show w.heap.size + 1 < W.heap.size by have := HWL.out.2; omega)
  clear f5 f6 f7 hr O4
  go_wp2
  refine bodyPost_ret (v := .agg #[.int .i64 q, .int .i64 st, .slice A3 (0) c3]) ?_ rfl ?_
  · simp [results, Try.results30, hr4, go_sem]
  · have ne : ∀ a, A3 = some a → a.block ≠ w.heap.size + 1 := fun a ha => by
      have h1 : W.heap.size ≤ a.block := F3.out.2.2 a ha
      have h2 := FB.out
      omega
    have Z := Y4.out.1
    refine ⟨below_set (below_set (below_set Z (by omega) _) (by omega) _) (by omega) _, ⟨A3, c3⟩, ?_, ((F3.out.1.set_ ne 0 _).set_ ne 1 _).set_ ne 2 _, F3.out.2.1, by show -9223372036854775808 ≤ q ∧ q ≤ 9223372036854775807; omega, by show -9223372036854775808 ≤ st ∧ st ≤ 9223372036854775807; omega⟩
    exact congrArg (fun n => Ending.returned (.agg #[.int .i64 q, .int .i64 st, .slice A3 n c3])) HWL.out.1.symm
set_option maxRecDepth 100000 in
set_option maxHeartbeats 2000000 in
theorem rwindow_room (fr st : Int) (l : List Int) (ad : Addr) (c : Nat) (x y : Nat) (w : World) (hs : SerSl w ⟨fr, st, l⟩ ⟨some ad, c⟩) (v : VS ⟨fr, st, l⟩) (h1 : x ≤ y) (h2' : y ≤ l.length) (xy0 : x = y) (hc : ¬ c = x) : Calls Try.prog 30 #[.agg #[.int .i64 fr, .int .i64 st, .slice (some ad) l.length c], .int .i64 (x : Int), .int .i64 (y : Int)] w (RSPost (winS ⟨fr, st, l⟩ x y) w) := by
  have hcap : l.length ≤ c := hs.2.1
  have le : l.length ≤ 10000 := v.le
  have v1 : 1 ≤ st ∧ st ≤ 86400 := v.st
  have vf : -68719476736 ≤ fr ∧ fr ≤ 68719476736 := v.fr
  have ve : -68719476736 ≤ fr + st * (l.length : Int) ∧ fr + st * (l.length : Int) ≤ 68719476736 := v.en
  have p1 : 0 ≤ st * (x : Int) := Int.mul_nonneg (by omega) (by omega)
  have p2 : st * (x : Int) ≤ st * (l.length : Int) := Int.mul_le_mul_of_nonneg_left (by omega) (by omega)
  have fb : -68719476736 ≤ fr + st * (x : Int) ∧ fr + st * (x : Int) ≤ 68719476736 := by omega
  have HS := hide hs
  have bd : ∀ i (hi : i < (winL l x y).length), -9223372036854775808 ≤ (winL l x y)[i] ∧ (winL l x y)[i] ≤ 9223372036854775807 := fun i hi => by
    have hi' := hi
    rw [winL_length h1 h2'] at hi'
    have e : (winL l x y)[i] = l.getD (x + i) 0 := by
      have := winL_at (l := l) (a := x) (b := y) (i := i) (by omega)
      simpa [hi] using this
    have hl := v.ok (x + i) (show x + i < l.length by omega)
    have hl' : -1 ≤ l.getD (x + i) 0 ∧ l.getD (x + i) 0 ≤ 4194304 := hl
    rw [e]
    omega
  have BD := hide bd
  have X := ((Own.start w).alloc #[.int .i64 fr, .int .i64 st, .slice (some ad) l.length c] 24).alloc #[.int .i64 0, .int .i64 0, .slice none 0 0] 24
  simp only [World.size_alloc] at X
  clear hs v p1 p2 ve bd
  have hr := X.r2
  show Calls Try.prog 30 _ w (RSPost ⟨fr + st * (x : Int), st, winL l x y⟩ w)
  obtain ⟨p, hp⟩ : ∃ p, p = st * (x : Int) := ⟨_, rfl⟩
  obtain ⟨q, hq⟩ : ∃ q, q = fr + p := ⟨_, rfl⟩
  rw [← hp, ← hq] at fb
  have w1 : IntKind.i64.wrap (st * (x : Int)) = p := by rw [← hp]; exact IntWalk.i64_in _ (by omega)
  have w2 : IntKind.i64.wrap (fr + p) = q := by rw [← hq]; exact IntWalk.i64_in _ (by omega)
  rw [← hp, ← hq]
  have QH := hide (And.intro hp hq)
  clear hp hq
  have k1 : ¬ (x : Int) < 0 := by omega
  have k2 : ¬ (y : Int) < (x : Int) := by omega
  have k3 : ¬ (l.length : Int) < (y : Int) := by omega
  have t1 : ((x : Int)).toNat = x := by omega
  have t2 : ((y : Int)).toNat = y := by omega
  have k6 : (x : Int) ≤ (y : Int) := by omega
  have k7 : (y : Int) ≤ (c : Int) := by omega
  have k8 : (0 : Int) ≤ (x : Int) := by omega
  have q2 : ¬ (c : Int) = (x : Int) := by omega
  have xy := hide xy0
  have t9 : y - x = 0 := by omega
  clear xy0
  have WL : (winL l x y).length = 0 := (winL_length (l := l) h1 h2').trans (by omega)
  have HI : Hid (IntSl ((w.alloc (.cells #[.int .i64 fr, .int .i64 st, .slice (some ad) l.length c] 24)).alloc (.cells #[.int .i64 0, .int .i64 0, .slice none 0 0] 24)) (some ad) l) := hide (HS.out.below X.1).1
  generalize hW : (w.alloc (.cells #[.int .i64 fr, .int .i64 st, .slice (some ad) l.length c] 24)).alloc (.cells #[.int .i64 0, .int .i64 0, .slice none 0 0] 24) = W at *
  have HWS : W.heap.size = w.heap.size + 2 := by rw [← hW]; simp
  have RD : Reads W W.heap.size 1 (some (ad.add x)) (0) ((winL l x y).map (Value.int .i64)) := by rw [show winL l x y = [] by simp [winL, xy.out]]; exact Reads.nil _ _ _
  have RH := hide (RD.below ((Below.refl W.heap.size W).drew.alloc (Nat.le_refl W.heap.size) (.cells #[] 3)))
  have RW := hide (World.ownsRow_lit (base := W.heap.size) (e := 3) (size := 1) W.drew #[] 0 (Nat.le_refl W.heap.size) (Nat.zero_le _) rfl)
  have HWL := hide (And.intro WL HWS)
  have HW2 := hide (show w.heap.size ≤ W.heap.size by omega)
  have TY : ∀ z ∈ [(w.heap.size + 1, (24 : TypeId), #[Value.int .i64 0, .int .i64 0, .slice none 0 0]), (w.heap.size, (24 : TypeId), #[Value.int .i64 fr, .int .i64 st, .slice (some ad) l.length c])], (3 : TypeId) ≠ z.2.1 := fun z hz => by
    simp only [List.mem_cons, List.not_mem_nil, or_false] at hz
    rcases hz with rfl | rfl
    · show (3 : TypeId) ≠ 24; decide
    · show (3 : TypeId) ≠ 24; decide
  obtain ⟨i0, hi0, hz0, hz1, hz2⟩ := info_parts int_info17
  have f4 : ∀ u ∈ (winL l x y).map (Value.int .i64), u.oneCell' = true := by intro u hu; obtain ⟨x, _, rfl⟩ := List.mem_map.1 hu; rfl
  have f1 : 0 + (0) ≤ maxLen := by unfold maxLen; omega
  have f2 : (0 + (0)) * 8 ≤ 140737488355328 := by omega
  have f3 : W.heap.size ≤ (W.drew.alloc (.cells #[] 3)).heap.size := by rw [World.size_alloc]; show W.heap.size ≤ W.heap.size + 1; omega
  clear RD WL HWS
  go_enter Try.func30, Try.ntmps30
  go_wp2_with fail
  clear hW
  go_region_held3 (fun w' => w'.cell? ⟨w.heap.size, 0, none⟩ = some (.int .i64 fr) ∧ w'.cell? ⟨w.heap.size, 1, none⟩ = some (.int .i64 st) ∧ w'.cell? ⟨w.heap.size, 2, none⟩ = some (.slice (some ad) l.length c)) (go_keep)
    ((refine step_append_any (w := W.drew.alloc (.cells #[] 3)) (by rfl) _ _ _ (by rfl) W.heap.size 3 i0 _ 1 8 Try.underlying22 hi0 hz0 hz1 hz2 rfl (by omega) _ 0 [] (by rfl) RW.out W.heap.size _ _ _ ((winL l x y).map (Value.int .i64)) (by rfl) RH.out f4 f1 f2 f3 ?_; intro v4 w4 hown4 hgrow hor; rw [Nat.zero_add, List.nil_append] at hown4; obtain ⟨A3, c3, rfl⟩ := row_is hown4; have O4 := hide hown4; have Y4 := hide ((X.drew.to ((Below.refl _ _).alloc (Nat.le_refl _) (.cells #[] 3))).grown (row_mono RW.out HW2.out) hgrow TY); clear hown4 hgrow hor; have hr4 := Y4.out.r2))
  obtain ⟨f5, f6, f7⟩ := fin_row O4.out HWL.out.1 BD.out
  have F3 := hide (And.intro f5 (And.intro f6 f7))
  have FB := hide (show w.heap.size + 1 < W.heap.size by have := HWL.out.2; omega)
  clear f5 f6 f7 hr O4
  go_wp2
  refine bodyPost_ret (v := .agg #[.int .i64 q, .int .i64 st, .slice A3 (0) c3]) ?_ rfl ?_
  · simp [results, Try.results30, hr4, go_sem]
  · have ne : ∀ a, A3 = some a → a.block ≠ w.heap.size + 1 := fun a ha => by
      have h1 : W.heap.size ≤ a.block := F3.out.2.2 a ha
      have h2 := FB.out
      omega
    have Z := Y4.out.1
    refine ⟨below_set (below_set (below_set Z (by omega) _) (by omega) _) (by omega) _, ⟨A3, c3⟩, ?_, ((F3.out.1.set_ ne 0 _).set_ ne 1 _).set_ ne 2 _, F3.out.2.1, by show -9223372036854775808 ≤ q ∧ q ≤ 9223372036854775807; omega, by show -9223372036854775808 ≤ st ∧ st ≤ 9223372036854775807; omega⟩
    exact congrArg (fun n => Ending.returned (.agg #[.int .i64 q, .int .i64 st, .slice A3 n c3])) HWL.out.1.symm
theorem rwindow_any (s : Ser) (a : SerA) (x y : Nat) (w : World) (hs : SerSl w s a) (hA : a.A = none → a.c = 0) (v : VS s) (h1 : x ≤ y) (h2 : y ≤ s.ds.length) : Calls Try.prog 30 #[s.val a, .int .i64 (x : Int), .int .i64 (y : Int)] w (RSPost (winS s x y) w) := by
  obtain ⟨fr, st, l⟩ := s
  obtain ⟨A, c⟩ := a
  have h2' : y ≤ l.length := h2
  have hcap : l.length ≤ c := hs.2.1
  by_cases hxy : x = y
  · subst hxy
    cases A with
    | none =>
      have hc : c = 0 := hA rfl
      obtain rfl : c = x := by omega
      exact rwindow_nil fr st l c w hs v h2'
    | some ad =>
      by_cases hc : c = x
      · subst hc
        exact rwindow_emp fr st l ad c w hs v h2'
      · exact rwindow_room fr st l ad c x x w hs v h1 h2' rfl hc
  · obtain ⟨b, off, e, _⟩ := hs.1.2 (show 0 < l.length by omega)
    have e' : A = some ⟨b, off, none⟩ := e
    subst e'
    exact rwindow_mid fr st l b off c x y w hs v h1 h2' (by omega)
end Go.Proofs.Ytkbocphpnmpaeaa
