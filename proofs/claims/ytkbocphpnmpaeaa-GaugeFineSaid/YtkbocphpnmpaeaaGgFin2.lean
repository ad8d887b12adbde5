/- The program's Finer of a record without steps. -/
import Derived.Test.YtkbocphpnmpaeaaGgFin
namespace Go.Proofs.Ytkbocphpnmpaeaa
open Go.RowKit

set_option maxRecDepth 100000 in
set_option maxHeartbeats 2000000 in
theorem finer_nil (s : Ser) (a : SerA) (k : Nat) (w : World) (hs : SerSl w s a) (hv : vS s = true) (h1 : 1 ≤ k) (h2 : k ≤ 10000) (h3 : s.st % (k : Int) = 0) (h5 : s.ds = []) :
    Calls Try.prog 11 #[s.val a, .int .i64 (k : Int)] w (SerPost ⟨s.fr, s.st / (k : Int), []⟩ 0 w) := by
  obtain ⟨fr, st, l⟩ := s
  obtain ⟨A, c⟩ := a
  have h5' : l = [] := h5
  clear h5
  subst h5'
  have h3' : st % (k : Int) = 0 := h3
  have V := hide (fun W (h : SerSl W ⟨fr, st, []⟩ ⟨A, c⟩) => gvalid_any ⟨fr, st, []⟩ ⟨A, c⟩ W h)
  rw [hv] at V
  have v := vS_iff.1 hv
  have v1 : 1 ≤ st ∧ st ≤ 86400 := v.st
  have vf : -68719476736 ≤ fr ∧ fr ≤ 68719476736 := v.fr
  clear hv v h3
  have HS := hide hs
  have X := ((Own.start w).alloc #[.int .i64 fr, .int .i64 st, .slice A 0 c] 24).alloc #[.int .i64 0, .int .i64 0, .slice none 0 0] 24
  simp only [World.size_alloc] at X
  clear hs
  have hr := X.r2
  have m1 : st.tmod (k : Int) = st % (k : Int) := Int.tmod_eq_emod_of_nonneg (by omega)
  have m2 : st.tdiv (k : Int) = st / (k : Int) := Int.tdiv_eq_ediv_of_nonneg (by omega)
  have b3 : 0 ≤ st / (k : Int) := Int.ediv_nonneg (by omega) (by omega)
  have b4 : st / (k : Int) ≤ st := Int.ediv_le_self _ (by omega)
  obtain ⟨q, hq⟩ : ∃ q, q = st / (k : Int) := ⟨_, rfl⟩
  have qb : 0 ≤ q ∧ q ≤ 86400 := by rw [hq]; exact ⟨b3, Int.le_trans b4 v1.2⟩
  have w1 : IntKind.i64.wrap (st.tmod (k : Int)) = 0 := by rw [m1, h3']; decide
  have w2 : IntKind.i64.wrap (st.tdiv (k : Int)) = q := by rw [m2, ← hq]; exact IntWalk.i64_in _ (by omega)
  have m3 : st.tmod (k : Int) = 0 := m1.trans h3'
  have m4 : st.tdiv (k : Int) = q := m2.trans hq.symm
  have w0 : IntKind.i64.wrap q = q := IntWalk.i64_in _ (by omega)
  have w3 : IntKind.i64.wrap (0 * (k : Int)) = 0 := by rw [Int.zero_mul]; decide
  have q4 : decide ((k : Int) < 1) = false := decide_eq_false (by omega)
  have q5 : ((k : Int) == 0) = false := by simp; omega
  have q6 : ¬ (k : Int) = 0 := by omega
  have QB := hide (And.intro (And.intro b3 b4) (And.intro v1 vf))
  rw [← hq]
  have HQ := hide hq
  clear h3' m1 m2 b3 b4 v1 vf hq
  show Calls Try.prog 11 #[.agg #[.int .i64 fr, .int .i64 st, .slice A 0 c], .int .i64 (k : Int)] w (SerPost ⟨fr, q, []⟩ 0 w)
  go_enter Try.func11, Try.ntmps11
  go_wp2_with fail
  refine (V.out _ (HS.out.below X.1)).mono ?_
  rintro e w1 ⟨rfl, hb⟩
  replace X := X.to hb
  clear hb hr HS V
  have hr := X.r2
  go_wp2_with fail
  go_region
  replace X := (X.alloc #[.int .i64 fr, .int .i64 q, .slice none 0 0] 24).drew
  generalize (w1.alloc (Obj.cells #[Value.int IntKind.i64 fr, Value.int IntKind.i64 q, Value.slice none 0 0] 24)).drew = W at *
  clear hr
  have hr := X.r3
  go_wp2
  refine bodyPost_ret (v := .tuple #[.agg #[.int .i64 fr, .int .i64 q, .slice none 0 0], .int .i64 0]) ?_ rfl ?_
  · simp [results, Try.results11, hr, go_sem]
  · have hx := X.1.size
    exact ⟨below_set (below_set (below_set X.1 (by omega) _) (by omega) _) (by omega) _, ⟨none, 0⟩, rfl, IntSl.nil _ _, Nat.le_refl _, by have := QB.out.2.2; show -9223372036854775808 ≤ fr ∧ fr ≤ 9223372036854775807; omega, by show -9223372036854775808 ≤ q ∧ q ≤ 9223372036854775807; omega⟩
end Go.Proofs.Ytkbocphpnmpaeaa
