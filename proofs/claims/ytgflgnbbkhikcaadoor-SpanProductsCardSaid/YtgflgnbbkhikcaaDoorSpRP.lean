/- The reference's pairs of integers of two words: with and whole: what each returns; nothing that was there is turned. -/
import Derived.Test.YtgflgnbbkhikcaaDoorRf3O
import Derived.Test.YtgflgnbbkhikcaaDoorSpProdP
import Derived.Test.YtgflgnbbkhikcaaDoorSpRef
import Derived.Test.YtgflgnbbkhikcaaDoorSpMul
namespace Go.Proofs.YtgflgnbbkhikcaaDoor
open Go.RowKit

abbrev PrV (h1 l1 : Nat) (s1 : Bool) (h2 l2 : Nat) (s2 : Bool) : Value := .agg #[.int .u64 (h1 : Int), .int .u64 (l1 : Int), .bool s1, .int .u64 (h2 : Int), .int .u64 (l2 : Int), .bool s2]
def PrPost (x y : Int) (w : World) (e : Ending) (w' : World) : Prop := (∃ (h1 l1 : Nat) (s1 : Bool) (h2 l2 : Nat) (s2 : Bool), e = .returned (PrV h1 l1 s1 h2 l2 s2) ∧ Nm h1 l1 s1 x ∧ Nm h2 l2 s2 y) ∧ Below w.heap.size w w'
set_option maxRecDepth 100000 in
set_option maxHeartbeats 4000000 in
theorem rwith_any {h1 l1 h2 l2 h l : Nat} {s1 s2 s : Bool} {x y z : Int} (hx : Nm h1 l1 s1 x) (hy : Nm h2 l2 s2 y) (hz : Nm h l s z) (bx : x.natAbs < 170141183460469231731687303715884105728) (by' : y.natAbs < 170141183460469231731687303715884105728) (bz : z.natAbs < 170141183460469231731687303715884105728) (w : World) :
    Calls Tryd.prog 46 #[PrV h1 l1 s1 h2 l2 s2, Nd h l s] w (PrPost (mn x z) (mx y z) w) := by
  have X := (((Own.start w).alloc #[.int .u64 (h1 : Int), .int .u64 (l1 : Int), .bool s1, .int .u64 (h2 : Int), .int .u64 (l2 : Int), .bool s2] 64).alloc #[.int .u64 (h : Int), .int .u64 (l : Int), .bool s] 59).alloc #[.int .u64 0, .int .u64 0, .bool false, .int .u64 0, .int .u64 0, .bool false] 64
  simp only [World.size_alloc] at X
  have O1 := hide (fun W => n3order hz hx (by omega) W)
  have O2 := hide (fun W => n3order hz hy (by omega) W)
  have H := hide (And.intro hx (And.intro hy hz))
  have ez : Hid (mn x z = if z < x then z else x) := hide rfl
  have fz : Hid (mx y z = if y < z then z else y) := hide rfl
  clear hx hy hz bx by' bz
  generalize mn x z = p at *
  generalize mx y z = q at *
  have hr := X.r3
  go_enter Tryd.func46, Tryd.ntmps46
  go_wp2_with fail
  refine (O1.out _).mono ?_
  rintro e w1 ⟨⟨k, rfl, hk1, hk2⟩, hb⟩
  replace X := X.to hb
  clear hb hr hk2
  have hr := X.r3
  by_cases c : z < x
  · have dk : decide (k < 0) = true := decide_eq_true (hk1.2 c)
    have ep : Hid (p = z) := hide (by rw [ez.out, if_pos c])
    clear hk1 ez c
    have Y : Own w w1 [(w.heap.size, 64, #[.int .u64 (h1 : Int), .int .u64 (l1 : Int), .bool s1, .int .u64 (h2 : Int), .int .u64 (l2 : Int), .bool s2]), (w.heap.size + 1, 59, #[.int .u64 (h : Int), .int .u64 (l : Int), .bool s]), (w.heap.size + 1 + 1, 64, #[.int .u64 0, .int .u64 0, .bool false, .int .u64 0, .int .u64 0, .bool false])] := ⟨X.1, fun x hx => X.2 x (by simp only [List.mem_cons, List.not_mem_nil, or_false] at hx ⊢; rcases hx with h | h | h <;> simp [h])⟩
    replace X := ((Y.set0 (Nat.le_refl _) (by simp; omega) 0 (.int .u64 (h : Int))).set0 (Nat.le_refl _) (by simp; omega) 1 (.int .u64 (l : Int))).set0 (Nat.le_refl _) (by simp; omega) 2 (.bool s)
    clear Y
    go_wp2_with fail
    refine (O2.out _).mono ?_
    rintro e w2 ⟨⟨k2, rfl, hk1, hk2⟩, hb⟩
    replace X := X.to hb
    clear hb hr hk1
    have hr := X.r3
    by_cases c : y < z
    · have dk2 : decide (0 < k2) = true := decide_eq_true (hk2.2 c)
      have eq : Hid (q = z) := hide (by rw [fz.out, if_pos c])
      clear hk2 fz c
      go_wp2
      exact bodyPost_ret (v := PrV h l s h l s) (by simp [results, Tryd.results46, hr, go_sem]) rfl ⟨⟨_, _, _, _, _, _, rfl, by rw [ep.out]; exact H.out.2.2, by rw [eq.out]; exact H.out.2.2⟩, by have HX := X.1; have hz := HX.size; go_grown⟩
    · have dk2 : decide (0 < k2) = false := decide_eq_false (fun h => c (hk2.1 h))
      have eq : Hid (q = y) := hide (by rw [fz.out, if_neg c])
      clear hk2 fz c
      go_wp2
      exact bodyPost_ret (v := PrV h l s h2 l2 s2) (by simp [results, Tryd.results46, hr, go_sem]) rfl ⟨⟨_, _, _, _, _, _, rfl, by rw [ep.out]; exact H.out.2.2, by rw [eq.out]; exact H.out.2.1⟩, by have HX := X.1; have hz := HX.size; go_grown⟩
  · have dk : decide (k < 0) = false := decide_eq_false (fun h => c (hk1.1 h))
    have ep : Hid (p = x) := hide (by rw [ez.out, if_neg c])
    clear hk1 ez c
    go_wp2_with fail
    refine (O2.out _).mono ?_
    rintro e w2 ⟨⟨k2, rfl, hk1, hk2⟩, hb⟩
    replace X := X.to hb
    clear hb hr hk1
    have hr := X.r3
    by_cases c : y < z
    · have dk2 : decide (0 < k2) = true := decide_eq_true (hk2.2 c)
      have eq : Hid (q = z) := hide (by rw [fz.out, if_pos c])
      clear hk2 fz c
      go_wp2
      exact bodyPost_ret (v := PrV h1 l1 s1 h l s) (by simp [results, Tryd.results46, hr, go_sem]) rfl ⟨⟨_, _, _, _, _, _, rfl, by rw [ep.out]; exact H.out.1, by rw [eq.out]; exact H.out.2.2⟩, by have HX := X.1; have hz := HX.size; go_grown⟩
    · have dk2 : decide (0 < k2) = false := decide_eq_false (fun h => c (hk2.1 h))
      have eq : Hid (q = y) := hide (by rw [fz.out, if_neg c])
      clear hk2 fz c
      go_wp2
      exact bodyPost_ret (v := PrV h1 l1 s1 h2 l2 s2) (by simp [results, Tryd.results46, hr, go_sem]) rfl ⟨⟨_, _, _, _, _, _, rfl, by rw [ep.out]; exact H.out.1, by rw [eq.out]; exact H.out.2.1⟩, by have HX := X.1; have hz := HX.size; go_grown⟩
set_option maxRecDepth 100000 in
set_option maxHeartbeats 4000000 in
theorem rwhole_any {h1 l1 h2 l2 : Nat} {s1 s2 : Bool} {x y : Int} (hx : Nm h1 l1 s1 x) (hy : Nm h2 l2 s2 y) (hxy : x ≤ y) (w : World) :
    Calls Tryd.prog 47 #[PrV h1 l1 s1 h2 l2 s2] w (RetSE (resS x y) (resE x y) w) := by
  have X := ((Own.start w).alloc #[.int .u64 (h1 : Int), .int .u64 (l1 : Int), .bool s1, .int .u64 (h2 : Int), .int .u64 (l2 : Int), .bool s2] 64).alloc #[.int .i64 0, .int .i64 0] 23
  simp only [World.size_alloc] at X
  have I1 := hide (fun W => n3isint hx W)
  have I2 := hide (fun W => n3isint hy W)
  have F := hide (fun W => rfits_any x y W hxy)
  have NO : Hid (fitsI x = false ∨ fitsI y = false → resS x y = ⟨0, 0⟩ ∧ resE x y = 5) := hide fun h => by
    have : ¬ (fitB x = true ∧ fitB y = true) := by
      rw [fitB_iff, fitB_iff]
      intro k
      rcases h with h | h
      · have := of_decide_eq_false h; omega
      · have := of_decide_eq_false h; omega
    unfold resS resE
    rw [if_neg this, if_neg this]
    exact ⟨rfl, rfl⟩
  clear hx hy hxy
  generalize resS x y = S at *
  generalize resE x y = E at *
  have hr := X.r2
  go_enter Tryd.func47, Tryd.ntmps47
  go_wp2_with fail
  refine (I1.out _).mono ?_
  rintro e w1 ⟨⟨v, rfl, hv⟩, hb⟩
  replace X := X.to hb
  clear hb hr
  have hr := X.r2
  go_wp2_with fail
  refine (I2.out _).mono ?_
  rintro e w2 ⟨⟨u, rfl, hu⟩, hb⟩
  replace X := X.to hb
  clear hb hr
  have hr := X.r2
  rcases Bool.eq_false_or_eq_true (fitsI x) with fx | fx
  · rcases Bool.eq_false_or_eq_true (fitsI y) with fy | fy
    · obtain rfl := hv fx
      obtain rfl := hu fy
      rw [fx, fy]
      clear hv hu fx fy
      go_wp2_with fail
      refine (F.out _).mono ?_
      rintro e w3 ⟨rfl, hb⟩
      replace X := X.to hb
      clear hb hr
      have hr := X.r2
      go_wp2
      exact bodyPost_ret (v := .tuple #[S.val, .int .i64 E]) (by simp [results, Tryd.results47, hr, go_sem]) rfl ⟨rfl, by have HX := X.1; have hz := HX.size; go_grown⟩
    · have N := hide (NO.out (.inr fy))
      rw [fx, fy]
      clear hv hu fx fy
      go_wp2
      exact bodyPost_ret (v := .tuple #[.agg #[.int .i64 0, .int .i64 0], .int .i64 5]) (by simp [results, Tryd.results47, hr, go_sem]) rfl (RetSE.mk (s' := ⟨0, 0⟩) (by have HX := X.1; have hz := HX.size; go_grown) N.out.1 N.out.2)
  · have N := hide (NO.out (.inl fx))
    rw [fx]
    generalize fitsI y = g at *
    clear hv hu fx
    go_wp2
    exact bodyPost_ret (v := .tuple #[.agg #[.int .i64 0, .int .i64 0], .int .i64 5]) (by simp [results, Tryd.results47, hr, go_sem]) rfl (RetSE.mk (s' := ⟨0, 0⟩) (by have HX := X.1; have hz := HX.size; go_grown) N.out.1 N.out.2)
theorem Own.set6 {w W : World} {b : Nat} {t : TypeId} {c0 c1 c2 c3 c4 c5 : Value} {L : List (Nat × TypeId × Array Value)} (h : Own w W ((b, t, #[c0, c1, c2, c3, c4, c5]) :: L)) (hb : w.heap.size ≤ b) (hn : ∀ x ∈ L, x.1 ≠ b) (u0 u1 u2 u3 u4 u5 : Value) :
    Own w ((((((W.setCell ⟨b, 0, none⟩ u0).setCell ⟨b, 1, none⟩ u1).setCell ⟨b, 2, none⟩ u2).setCell ⟨b, 3, none⟩ u3).setCell ⟨b, 4, none⟩ u4).setCell ⟨b, 5, none⟩ u5) ((b, t, #[u0, u1, u2, u3, u4, u5]) :: L) :=
  (((((h.set0 hb hn 0 u0).set0 hb hn 1 u1).set0 hb hn 2 u2).set0 hb hn 3 u3).set0 hb hn 4 u4).set0 hb hn 5 u5
theorem Own.set3 {w W : World} {b : Nat} {t : TypeId} {c0 c1 c2 : Value} {L : List (Nat × TypeId × Array Value)} (h : Own w W ((b, t, #[c0, c1, c2]) :: L)) (hb : w.heap.size ≤ b) (hn : ∀ x ∈ L, x.1 ≠ b) (u0 u1 u2 : Value) :
    Own w (((W.setCell ⟨b, 0, none⟩ u0).setCell ⟨b, 1, none⟩ u1).setCell ⟨b, 2, none⟩ u2) ((b, t, #[u0, u1, u2]) :: L) :=
  ((h.set0 hb hn 0 u0).set0 hb hn 1 u1).set0 hb hn 2 u2
theorem keepsA6 (w' : World) : ∀ o b i v, w'.cell? ⟨b, i, none⟩ = some v → (w'.alloc o).cell? ⟨b, i, none⟩ = some v := keepsA w'
def Sm (x : Int) : Prop := x.natAbs < 170141183460469231731687303715884105728
theorem sm_mn {x z : Int} (h : Sm x) (h' : Sm z) : Sm (mn x z) := by unfold mn; split <;> assumption
theorem sm_mx {x z : Int} (h : Sm x) (h' : Sm z) : Sm (mx x z) := by unfold mx; split <;> assumption
end Go.Proofs.YtgflgnbbkhikcaaDoor
