/- The program's both, Add, Sub, Mul, Div: what each returns, for all fractions; nothing that was there is turned. -/
import Derived.Test.YtbmckddjdkjplaaDoorRtFn
import Derived.Test.YtbmckddjdkjplaaDoorOwn3
namespace Go.Proofs.YtbmckddjdkjplaaDoor
open Go.RowKit

theorem op2_no1 {a b : Fr} (h : vF a = false) (n d : Int) : op2F a b n d = Fr.zero ∧ op2E a b n d = 1 := by simp [op2F, op2E, h]
theorem op2_no2 {a b : Fr} (h : vF b = false) (n d : Int) : op2F a b n d = Fr.zero ∧ op2E a b n d = 1 := by simp [op2F, op2E, h]
theorem op2_yes {a b : Fr} (h : vF a = true) (h' : vF b = true) (n d : Int) : op2F a b n d = mkF n d ∧ op2E a b n d = mkE n d := by simp [op2F, op2E, h, h']
set_option maxRecDepth 100000 in
set_option maxHeartbeats 1000000 in
theorem both_any (a b : Fr) (F : FuncId) (ps : Array Value) (n d : Int) (w : World)
    (hF : vF a = true → vF b = true → ∀ w', Below w.heap.size w w' → Calls Tryd.prog F ps w' (RetQ (.tuple #[.int .i64 n, .int .i64 d]) w'))
    (hc : ∀ w : World, (callFunc F ps).run Tryd.prog w = .ok (.enter F ps) w)
    (hb : vF a = true → vF b = true → (-9223372036854775808 ≤ n ∧ n ≤ 9223372036854775807) ∧ (-9223372036854775808 ≤ d ∧ d ≤ 9223372036854775807)) :
    Calls Tryd.prog 50 #[a.val, b.val, .func (.func F) #[] ps] w (RetFE (op2F a b n d) (op2E a b n d) w) := by
  have X := (((Own.start w).alloc #[.int .i64 a.num, .int .i64 a.den] 24).alloc #[.int .i64 b.num, .int .i64 b.den] 24).alloc #[.int .i64 0, .int .i64 0] 24
  simp only [World.size_alloc] at X
  rcases Bool.eq_false_or_eq_true (vF a) with ha | ha
  rotate_left
  · have H := hide (op2_no1 (b := b) ha n d)
    clear hF hb
    go_enter Tryd.func50, Tryd.ntmps50
    go_wp2_with fail
    refine (rvalid_any a _).mono ?_
    rintro e w1 ⟨rfl, hb⟩
    replace X := X.to hb
    clear hb
    have hr := X.r3
    rw [ha]
    go_wp2
    exact bodyPost_ret (v := .tuple #[Fr.zero.val, .int .i64 1]) (by simp [results, Tryd.results50, hr, Fr.zero, go_sem]) rfl (RetFE.mk (by have HX := X.1; have hz := HX.size; go_grown) H.out.1 H.out.2)
  rcases Bool.eq_false_or_eq_true (vF b) with hb' | hb'
  rotate_left
  · have H := hide (op2_no2 (a := a) hb' n d)
    clear hF hb
    go_enter Tryd.func50, Tryd.ntmps50
    go_wp2_with fail
    refine (rvalid_any a _).mono ?_
    rintro e w1 ⟨rfl, hb⟩
    replace X := X.to hb
    clear hb
    have hr := X.r3
    rw [ha]
    go_wp2_with fail
    refine (rvalid_any b _).mono ?_
    rintro e w1 ⟨rfl, hb⟩
    replace X := X.to hb
    clear hb hr
    have hr := X.r3
    rw [hb']
    go_wp2
    exact bodyPost_ret (v := .tuple #[Fr.zero.val, .int .i64 1]) (by simp [results, Tryd.results50, hr, Fr.zero, go_sem]) rfl (RetFE.mk (by have HX := X.1; have hz := HX.size; go_grown) H.out.1 H.out.2)
  have H := hide (op2_yes ha hb' n d)
  have F1 := hide (hF ha hb')
  have hB := hide (hb ha hb')
  clear hF hb
  go_enter Tryd.func50, Tryd.ntmps50
  go_wp2_with fail
  refine (rvalid_any a _).mono ?_
  rintro e w1 ⟨rfl, hb⟩
  replace X := X.to hb
  clear hb
  have hr := X.r3
  rw [ha]
  go_wp2_with fail
  refine (rvalid_any b _).mono ?_
  rintro e w1 ⟨rfl, hb⟩
  replace X := X.to hb
  clear hb hr
  have hr := X.r3
  rw [hb']
  clear ha hb'
  go_wp2_with fail
  refine (F1.out _ X.1).mono ?_
  rintro e w1 ⟨rfl, m, rfl⟩
  replace X := X.drewN m
  generalize World.drewN _ m = W at *
  go_wp2_with fail
  refine (make_any n d _ hB.out.1.1 hB.out.1.2 hB.out.2.1 hB.out.2.2).mono ?_
  rintro e w1 ⟨rfl, hb⟩
  replace X := X.to hb
  clear hb hr
  have hr := X.r3
  go_wp2
  exact bodyPost_ret (v := .tuple #[(mkF n d).val, .int .i64 (mkE n d)]) (by simp [results, Tryd.results50, hr, go_sem]) rfl (RetFE.mk (by have HX := X.1; have hz := HX.size; go_grown) H.out.1 H.out.2)
/-- the cells of a fraction -/
def FrAt (w : World) (g : Nat) (a : Fr) : Prop := w.cell? ⟨g, 0, none⟩ = some (.int .i64 a.num) ∧ w.cell? ⟨g, 1, none⟩ = some (.int .i64 a.den)
theorem FrAt.below {w w' : World} {g : Nat} {a : Fr} (h : FrAt w g a) (hb : Below w.heap.size w w') : FrAt w' g a := ⟨keeps hb _ _ _ h.1, keeps hb _ _ _ h.2⟩
theorem prod_bd {x y M N : Int} (hM : 0 ≤ M) (h1 : -M ≤ x) (h2 : x ≤ M) (h3 : -N ≤ y) (h4 : y ≤ N) : -(M * N) ≤ x * y ∧ x * y ≤ M * N := by
  have hN : 0 ≤ N := by omega
  have a1 : (x * y).natAbs ≤ M.natAbs * N.natAbs := by rw [Int.natAbs_mul]; exact Nat.mul_le_mul (by omega) (by omega)
  have a2 : ((M.natAbs * N.natAbs : Nat) : Int) = M * N := by rw [Int.natCast_mul]; rw [Int.natAbs_of_nonneg hM, Int.natAbs_of_nonneg hN]
  omega
theorem fr_prod {a b : Fr} (ha : vF a = true) (hb : vF b = true) :
    (-1152921504606846976 ≤ a.num * b.num ∧ a.num * b.num ≤ 1152921504606846976) ∧ (-1152921504606846976 ≤ a.num * b.den ∧ a.num * b.den ≤ 1152921504606846976) ∧
    (-1152921504606846976 ≤ b.num * a.den ∧ b.num * a.den ≤ 1152921504606846976) ∧ (-1152921504606846976 ≤ a.den * b.num ∧ a.den * b.num ≤ 1152921504606846976) ∧ (1 ≤ a.den * b.den ∧ a.den * b.den ≤ 1152921504606846976) := by
  obtain ⟨a1, a2, a3, a4⟩ := (vF_iff.1 ha).1
  obtain ⟨b1, b2, b3, b4⟩ := (vF_iff.1 hb).1
  have e : (1152921504606846976 : Int) = 1073741824 * 1073741824 := by decide
  have p := Int.mul_pos (show 0 < a.den by omega) (show 0 < b.den by omega)
  have q := prod_bd (M := 1073741824) (N := 1073741824) (x := a.den) (y := b.den) (by omega) (by omega) (by omega) (by omega) (by omega)
  rw [e]
  exact ⟨prod_bd (by omega) (by omega) (by omega) (by omega) (by omega), prod_bd (by omega) (by omega) (by omega) (by omega) (by omega), prod_bd (by omega) (by omega) (by omega) (by omega) (by omega),
    prod_bd (by omega) (by omega) (by omega) (by omega) (by omega), ⟨by omega, q.2⟩⟩
theorem w64 {z : Int} (h : -9223372036854775808 ≤ z) (h' : z ≤ 9223372036854775807) : IntKind.i64.wrap z = z := by rw [IntKind.wrap_i64]; omega
set_option maxRecDepth 100000 in
set_option maxHeartbeats 1000000 in
theorem addfn_any (a b : Fr) (g h : Nat) (w : World) (ha : vF a = true) (hb : vF b = true) (hg : FrAt w g a) (hh : FrAt w h b) :
    Calls Tryd.prog 51 #[.pointer (some ⟨g, 0, none⟩), .pointer (some ⟨h, 0, none⟩)] w (RetQ (.tuple #[.int .i64 (a.num * b.den + b.num * a.den), .int .i64 (a.den * b.den)]) w) := by
  obtain ⟨⟨n1, n2⟩, ⟨n3, n4⟩, ⟨n5, n6⟩, ⟨n7, n8⟩, n9, n10⟩ := fr_prod ha hb
  have e1 := w64 (z := a.num * b.num) (by omega) (by omega)
  have e2 := w64 (z := a.num * b.den) (by omega) (by omega)
  have e3 := w64 (z := b.num * a.den) (by omega) (by omega)
  have e4 := w64 (z := a.den * b.num) (by omega) (by omega)
  have e5 := w64 (z := a.den * b.den) (by omega) (by omega)
  have e6 := w64 (z := a.num * b.den + b.num * a.den) (by omega) (by omega)
  have e7 := w64 (z := a.num * b.den - b.num * a.den) (by omega) (by omega)
  obtain ⟨g1, g2⟩ := hg
  obtain ⟨h1, h2⟩ := hh
  clear ha hb n1 n2 n3 n4 n5 n6 n7 n8 n9 n10
  go_enter Tryd.func51, Tryd.ntmps51
  go_wp2_with fail
  go_quiet (fail)
  go_wp2
  go_ret2
  exact ⟨rfl, nq, rfl⟩
set_option maxRecDepth 100000 in
set_option maxHeartbeats 1000000 in
theorem add_any (a b : Fr) (w : World) : Calls Tryd.prog 28 #[a.val, b.val] w (RetFE (addF a b) (addE a b) w) := by
  have X := (((Own.start w).alloc #[.int .i64 a.num, .int .i64 a.den] 24).alloc #[.int .i64 b.num, .int .i64 b.den] 24).alloc #[.int .i64 0, .int .i64 0] 24
  simp only [World.size_alloc] at X
  have hr := X.r3
  have A1 : FrAt (((w.alloc (.cells #[.int .i64 a.num, .int .i64 a.den] 24)).alloc (.cells #[.int .i64 b.num, .int .i64 b.den] 24)).alloc (.cells #[.int .i64 0, .int .i64 0] 24)) w.heap.size a := ⟨(hr.2.2.1 0).trans rfl, (hr.2.2.1 1).trans rfl⟩
  have A2 : FrAt (((w.alloc (.cells #[.int .i64 a.num, .int .i64 a.den] 24)).alloc (.cells #[.int .i64 b.num, .int .i64 b.den] 24)).alloc (.cells #[.int .i64 0, .int .i64 0] 24)) (w.heap.size + 1) b := ⟨(hr.2.1.1 0).trans rfl, (hr.2.1.1 1).trans rfl⟩
  have C := both_any a b 51 #[.pointer (some ⟨w.heap.size, 0, none⟩), .pointer (some ⟨w.heap.size + 1, 0, none⟩)] (a.num * b.den + b.num * a.den) (a.den * b.den) _
    (fun ha hb w' hw => addfn_any a b _ _ w' ha hb (A1.below hw) (A2.below hw)) (fun _ => by kernel_rfl) (fun ha hb => by have := fr_prod ha hb; omega)
  clear A1 A2
  have C := hide C
  go_enter Tryd.func28, Tryd.ntmps28
  go_wp2_with fail
  refine C.out.mono ?_
  rintro e w1 ⟨rfl, hb⟩
  replace X := X.to hb
  clear hb hr C
  have hr := X.r3
  go_wp2
  exact bodyPost_ret (v := .tuple #[(addF a b).val, .int .i64 (addE a b)]) (by simp [results, Tryd.results28, hr, addF, addE, go_sem]) rfl (RetFE.mk (by have HX := X.1; have hz := HX.size; go_grown) rfl rfl)
set_option maxRecDepth 100000 in
set_option maxHeartbeats 1000000 in
theorem subfn_any (a b : Fr) (g h : Nat) (w : World) (ha : vF a = true) (hb : vF b = true) (hg : FrAt w g a) (hh : FrAt w h b) :
    Calls Tryd.prog 53 #[.pointer (some ⟨g, 0, none⟩), .pointer (some ⟨h, 0, none⟩)] w (RetQ (.tuple #[.int .i64 (a.num * b.den - b.num * a.den), .int .i64 (a.den * b.den)]) w) := by
  obtain ⟨⟨n1, n2⟩, ⟨n3, n4⟩, ⟨n5, n6⟩, ⟨n7, n8⟩, n9, n10⟩ := fr_prod ha hb
  have e1 := w64 (z := a.num * b.num) (by omega) (by omega)
  have e2 := w64 (z := a.num * b.den) (by omega) (by omega)
  have e3 := w64 (z := b.num * a.den) (by omega) (by omega)
  have e4 := w64 (z := a.den * b.num) (by omega) (by omega)
  have e5 := w64 (z := a.den * b.den) (by omega) (by omega)
  have e6 := w64 (z := a.num * b.den + b.num * a.den) (by omega) (by omega)
  have e7 := w64 (z := a.num * b.den - b.num * a.den) (by omega) (by omega)
  obtain ⟨g1, g2⟩ := hg
  obtain ⟨h1, h2⟩ := hh
  clear ha hb n1 n2 n3 n4 n5 n6 n7 n8 n9 n10
  go_enter Tryd.func53, Tryd.ntmps53
  go_wp2_with fail
  go_quiet (fail)
  go_wp2
  go_ret2
  exact ⟨rfl, nq, rfl⟩
set_option maxRecDepth 100000 in
set_option maxHeartbeats 1000000 in
theorem sub_any (a b : Fr) (w : World) : Calls Tryd.prog 31 #[a.val, b.val] w (RetFE (subF a b) (subE a b) w) := by
  have X := (((Own.start w).alloc #[.int .i64 a.num, .int .i64 a.den] 24).alloc #[.int .i64 b.num, .int .i64 b.den] 24).alloc #[.int .i64 0, .int .i64 0] 24
  simp only [World.size_alloc] at X
  have hr := X.r3
  have A1 : FrAt (((w.alloc (.cells #[.int .i64 a.num, .int .i64 a.den] 24)).alloc (.cells #[.int .i64 b.num, .int .i64 b.den] 24)).alloc (.cells #[.int .i64 0, .int .i64 0] 24)) w.heap.size a := ⟨(hr.2.2.1 0).trans rfl, (hr.2.2.1 1).trans rfl⟩
  have A2 : FrAt (((w.alloc (.cells #[.int .i64 a.num, .int .i64 a.den] 24)).alloc (.cells #[.int .i64 b.num, .int .i64 b.den] 24)).alloc (.cells #[.int .i64 0, .int .i64 0] 24)) (w.heap.size + 1) b := ⟨(hr.2.1.1 0).trans rfl, (hr.2.1.1 1).trans rfl⟩
  have C := both_any a b 53 #[.pointer (some ⟨w.heap.size, 0, none⟩), .pointer (some ⟨w.heap.size + 1, 0, none⟩)] (a.num * b.den - b.num * a.den) (a.den * b.den) _
    (fun ha hb w' hw => subfn_any a b _ _ w' ha hb (A1.below hw) (A2.below hw)) (fun _ => by kernel_rfl) (fun ha hb => by have := fr_prod ha hb; omega)
  clear A1 A2
  have C := hide C
  go_enter Tryd.func31, Tryd.ntmps31
  go_wp2_with fail
  refine C.out.mono ?_
  rintro e w1 ⟨rfl, hb⟩
  replace X := X.to hb
  clear hb hr C
  have hr := X.r3
  go_wp2
  exact bodyPost_ret (v := .tuple #[(subF a b).val, .int .i64 (subE a b)]) (by simp [results, Tryd.results31, hr, subF, subE, go_sem]) rfl (RetFE.mk (by have HX := X.1; have hz := HX.size; go_grown) rfl rfl)
set_option maxRecDepth 100000 in
set_option maxHeartbeats 1000000 in
theorem mulfn_any (a b : Fr) (g h : Nat) (w : World) (ha : vF a = true) (hb : vF b = true) (hg : FrAt w g a) (hh : FrAt w h b) :
    Calls Tryd.prog 52 #[.pointer (some ⟨g, 0, none⟩), .pointer (some ⟨h, 0, none⟩)] w (RetQ (.tuple #[.int .i64 (a.num * b.num), .int .i64 (a.den * b.den)]) w) := by
  obtain ⟨⟨n1, n2⟩, ⟨n3, n4⟩, ⟨n5, n6⟩, ⟨n7, n8⟩, n9, n10⟩ := fr_prod ha hb
  have e1 := w64 (z := a.num * b.num) (by omega) (by omega)
  have e2 := w64 (z := a.num * b.den) (by omega) (by omega)
  have e3 := w64 (z := b.num * a.den) (by omega) (by omega)
  have e4 := w64 (z := a.den * b.num) (by omega) (by omega)
  have e5 := w64 (z := a.den * b.den) (by omega) (by omega)
  have e6 := w64 (z := a.num * b.den + b.num * a.den) (by omega) (by omega)
  have e7 := w64 (z := a.num * b.den - b.num * a.den) (by omega) (by omega)
  obtain ⟨g1, g2⟩ := hg
  obtain ⟨h1, h2⟩ := hh
  clear ha hb n1 n2 n3 n4 n5 n6 n7 n8 n9 n10
  go_enter Tryd.func52, Tryd.ntmps52
  go_wp2_with fail
  go_quiet (fail)
  go_wp2
  go_ret2
  exact ⟨rfl, nq, rfl⟩
set_option maxRecDepth 100000 in
set_option maxHeartbeats 1000000 in
theorem mul_any (a b : Fr) (w : World) : Calls Tryd.prog 30 #[a.val, b.val] w (RetFE (mulF a b) (mulE a b) w) := by
  have X := (((Own.start w).alloc #[.int .i64 a.num, .int .i64 a.den] 24).alloc #[.int .i64 b.num, .int .i64 b.den] 24).alloc #[.int .i64 0, .int .i64 0] 24
  simp only [World.size_alloc] at X
  have hr := X.r3
  have A1 : FrAt (((w.alloc (.cells #[.int .i64 a.num, .int .i64 a.den] 24)).alloc (.cells #[.int .i64 b.num, .int .i64 b.den] 24)).alloc (.cells #[.int .i64 0, .int .i64 0] 24)) w.heap.size a := ⟨(hr.2.2.1 0).trans rfl, (hr.2.2.1 1).trans rfl⟩
  have A2 : FrAt (((w.alloc (.cells #[.int .i64 a.num, .int .i64 a.den] 24)).alloc (.cells #[.int .i64 b.num, .int .i64 b.den] 24)).alloc (.cells #[.int .i64 0, .int .i64 0] 24)) (w.heap.size + 1) b := ⟨(hr.2.1.1 0).trans rfl, (hr.2.1.1 1).trans rfl⟩
  have C := both_any a b 52 #[.pointer (some ⟨w.heap.size, 0, none⟩), .pointer (some ⟨w.heap.size + 1, 0, none⟩)] (a.num * b.num) (a.den * b.den) _
    (fun ha hb w' hw => mulfn_any a b _ _ w' ha hb (A1.below hw) (A2.below hw)) (fun _ => by kernel_rfl) (fun ha hb => by have := fr_prod ha hb; omega)
  clear A1 A2
  have C := hide C
  go_enter Tryd.func30, Tryd.ntmps30
  go_wp2_with fail
  refine C.out.mono ?_
  rintro e w1 ⟨rfl, hb⟩
  replace X := X.to hb
  clear hb hr C
  have hr := X.r3
  go_wp2
  exact bodyPost_ret (v := .tuple #[(mulF a b).val, .int .i64 (mulE a b)]) (by simp [results, Tryd.results30, hr, mulF, mulE, go_sem]) rfl (RetFE.mk (by have HX := X.1; have hz := HX.size; go_grown) rfl rfl)
set_option maxRecDepth 100000 in
set_option maxHeartbeats 1000000 in
theorem divfn_any (a b : Fr) (g h : Nat) (w : World) (ha : vF a = true) (hb : vF b = true) (hg : FrAt w g a) (hh : FrAt w h b) :
    Calls Tryd.prog 54 #[.pointer (some ⟨g, 0, none⟩), .pointer (some ⟨h, 0, none⟩)] w (RetQ (.tuple #[.int .i64 (a.num * b.den), .int .i64 (a.den * b.num)]) w) := by
  obtain ⟨⟨n1, n2⟩, ⟨n3, n4⟩, ⟨n5, n6⟩, ⟨n7, n8⟩, n9, n10⟩ := fr_prod ha hb
  have e1 := w64 (z := a.num * b.num) (by omega) (by omega)
  have e2 := w64 (z := a.num * b.den) (by omega) (by omega)
  have e3 := w64 (z := b.num * a.den) (by omega) (by omega)
  have e4 := w64 (z := a.den * b.num) (by omega) (by omega)
  have e5 := w64 (z := a.den * b.den) (by omega) (by omega)
  have e6 := w64 (z := a.num * b.den + b.num * a.den) (by omega) (by omega)
  have e7 := w64 (z := a.num * b.den - b.num * a.den) (by omega) (by omega)
  obtain ⟨g1, g2⟩ := hg
  obtain ⟨h1, h2⟩ := hh
  clear ha hb n1 n2 n3 n4 n5 n6 n7 n8 n9 n10
  go_enter Tryd.func54, Tryd.ntmps54
  go_wp2_with fail
  go_quiet (fail)
  go_wp2
  go_ret2
  exact ⟨rfl, nq, rfl⟩
set_option maxRecDepth 100000 in
set_option maxHeartbeats 1000000 in
theorem div_any (a b : Fr) (w : World) : Calls Tryd.prog 32 #[a.val, b.val] w (RetFE (divF a b) (divE a b) w) := by
  have X := (((Own.start w).alloc #[.int .i64 a.num, .int .i64 a.den] 24).alloc #[.int .i64 b.num, .int .i64 b.den] 24).alloc #[.int .i64 0, .int .i64 0] 24
  simp only [World.size_alloc] at X
  have hr := X.r3
  have A1 : FrAt (((w.alloc (.cells #[.int .i64 a.num, .int .i64 a.den] 24)).alloc (.cells #[.int .i64 b.num, .int .i64 b.den] 24)).alloc (.cells #[.int .i64 0, .int .i64 0] 24)) w.heap.size a := ⟨(hr.2.2.1 0).trans rfl, (hr.2.2.1 1).trans rfl⟩
  have A2 : FrAt (((w.alloc (.cells #[.int .i64 a.num, .int .i64 a.den] 24)).alloc (.cells #[.int .i64 b.num, .int .i64 b.den] 24)).alloc (.cells #[.int .i64 0, .int .i64 0] 24)) (w.heap.size + 1) b := ⟨(hr.2.1.1 0).trans rfl, (hr.2.1.1 1).trans rfl⟩
  have C := both_any a b 54 #[.pointer (some ⟨w.heap.size, 0, none⟩), .pointer (some ⟨w.heap.size + 1, 0, none⟩)] (a.num * b.den) (a.den * b.num) _
    (fun ha hb w' hw => divfn_any a b _ _ w' ha hb (A1.below hw) (A2.below hw)) (fun _ => by kernel_rfl) (fun ha hb => by have := fr_prod ha hb; omega)
  clear A1 A2
  have C := hide C
  go_enter Tryd.func32, Tryd.ntmps32
  go_wp2_with fail
  refine C.out.mono ?_
  rintro e w1 ⟨rfl, hb⟩
  replace X := X.to hb
  clear hb hr C
  have hr := X.r3
  go_wp2
  exact bodyPost_ret (v := .tuple #[(divF a b).val, .int .i64 (divE a b)]) (by simp [results, Tryd.results32, hr, divF, divE, go_sem]) rfl (RetFE.mk (by have HX := X.1; have hz := HX.size; go_grown) rfl rfl)
end Go.Proofs.YtbmckddjdkjplaaDoor
