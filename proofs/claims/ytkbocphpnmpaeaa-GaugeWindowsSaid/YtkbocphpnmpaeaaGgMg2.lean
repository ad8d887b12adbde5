/- The program's Merge of records: what it returns; nothing that was there is turned. -/
import Derived.Test.YtkbocphpnmpaeaaGgMrg
namespace Go.Proofs.Ytkbocphpnmpaeaa
open Go.RowKit

set_option maxRecDepth 100000 in
set_option maxHeartbeats 2000000 in
theorem merge_bad (s : Ser) (a : SerA) (t : Ser) (b : SerA) (w : World) (hs : SerSl w s a) (ht : SerSl w t b) (hv : vS s = false ∨ (vS s = true ∧ vS t = false)) : Calls Try.prog 29 #[s.val a, t.val b] w (SerPost Ser0 1 w) := by
  have VA := hide (fun W (h : SerSl W s a) => gvalid_any s a W h)
  have VB := hide (fun W (h : SerSl W t b) => gvalid_any t b W h)
  have HS := hide hs
  have HT := hide ht
  have X := (((Own.start w).alloc (s.cells a) 24).alloc (t.cells b) 24).alloc #[.int .i64 0, .int .i64 0, .slice none 0 0] 24
  simp only [World.size_alloc] at X
  clear hs ht
  have hr := X.r3
  rcases hv with hv | ⟨hv1, hv2⟩
  · rw [hv] at VA
    clear hv VB
    go_enter Try.func29, Try.ntmps29
    go_wp2_with fail
    refine (VA.out _ (HS.out.below X.1)).mono ?_
    rintro e w1 ⟨rfl, hb⟩
    replace X := X.to hb
    clear hb hr VA
    have hr := X.r3
    go_wp2
    refine bodyPost_ret (v := .tuple #[.agg #[.int .i64 0, .int .i64 0, .slice none 0 0], .int .i64 1]) ?_ rfl (SerPost.err (by have HX := X.1; have hz := HX.size; go_grown))
    simp [results, Try.results29, hr, go_sem]
  · rw [hv1] at VA
    rw [hv2] at VB
    clear hv1 hv2
    go_enter Try.func29, Try.ntmps29
    go_wp2_with fail
    refine (VA.out _ (HS.out.below X.1)).mono ?_
    rintro e w1 ⟨rfl, hb⟩
    replace X := X.to hb
    clear hb hr VA
    have hr := X.r3
    go_wp2_with fail
    refine (VB.out _ (HT.out.below X.1)).mono ?_
    rintro e w1 ⟨rfl, hb⟩
    replace X := X.to hb
    clear hb hr VB
    have hr := X.r3
    go_wp2
    refine bodyPost_ret (v := .tuple #[.agg #[.int .i64 0, .int .i64 0, .slice none 0 0], .int .i64 1]) ?_ rfl (SerPost.err (by have HX := X.1; have hz := HX.size; go_grown))
    simp [results, Try.results29, hr, go_sem]
set_option maxRecDepth 100000 in
set_option maxHeartbeats 2000000 in
theorem merge_shape (s : Ser) (a : SerA) (t : Ser) (b : SerA) (w : World) (hs : SerSl w s a) (ht : SerSl w t b) (hv1 : vS s = true) (hv2 : vS t = true) (h : s.st ≠ t.st ∨ (s.st = t.st ∧ (s.fr - t.fr).tmod s.st ≠ 0)) : Calls Try.prog 29 #[s.val a, t.val b] w (SerPost Ser0 25 w) := by
  obtain ⟨fr, st, l⟩ := s
  obtain ⟨A, c⟩ := a
  obtain ⟨fr', st', l'⟩ := t
  obtain ⟨A', c'⟩ := b
  have h' : st ≠ st' ∨ (st = st' ∧ (fr - fr').tmod st ≠ 0) := h
  clear h
  have VA := hide (fun W (h : SerSl W ⟨fr, st, l⟩ ⟨A, c⟩) => gvalid_any ⟨fr, st, l⟩ ⟨A, c⟩ W h)
  have VB := hide (fun W (h : SerSl W ⟨fr', st', l'⟩ ⟨A', c'⟩) => gvalid_any ⟨fr', st', l'⟩ ⟨A', c'⟩ W h)
  rw [hv1] at VA
  rw [hv2] at VB
  have va := vS_iff.1 hv1
  have vb := vS_iff.1 hv2
  have v1 : 1 ≤ st ∧ st ≤ 86400 := va.st
  have f1 : -68719476736 ≤ fr ∧ fr ≤ 68719476736 := va.fr
  have f2 : -68719476736 ≤ fr' ∧ fr' ≤ 68719476736 := vb.fr
  have HS := hide hs
  have HT := hide ht
  have X := (((Own.start w).alloc #[.int .i64 fr, .int .i64 st, .slice A l.length c] 24).alloc #[.int .i64 fr', .int .i64 st', .slice A' l'.length c'] 24).alloc #[.int .i64 0, .int .i64 0, .slice none 0 0] 24
  simp only [World.size_alloc] at X
  have s1 := IntWalk.i64_in (fr - fr') (by omega)
  have q5 : (st == 0) = false := beq_eq_false_iff_ne.2 (by omega)
  have q6 : ¬ st = 0 := by omega
  have tb : -86400 ≤ (fr - fr').tmod st ∧ (fr - fr').tmod st ≤ 86400 := by
    have := Int.tmod_lt_of_pos (fr - fr') (show 0 < st by omega)
    have h2 := Int.lt_tmod_of_pos (fr - fr') (show 0 < st by omega)
    omega
  have w1 : IntKind.i64.wrap ((fr - fr').tmod st) = (fr - fr').tmod st := IntWalk.i64_in _ (by omega)
  clear hs ht hv1 hv2 va vb f1 f2 v1 tb
  have hr := X.r3
  show Calls Try.prog 29 #[.agg #[.int .i64 fr, .int .i64 st, .slice A l.length c], .agg #[.int .i64 fr', .int .i64 st', .slice A' l'.length c']] w _
  rcases h' with h | ⟨h1, h2⟩
  · have g1 : (st != st') = true := by simpa using h
    have g2 : (st == st') = false := by simpa using h
    clear h
    go_enter Try.func29, Try.ntmps29
    go_wp2_with fail
    refine (VA.out _ (HS.out.below X.1)).mono ?_
    rintro e w1 ⟨rfl, hb⟩
    replace X := X.to hb
    clear hb hr VA
    have hr := X.r3
    go_wp2_with fail
    refine (VB.out _ (HT.out.below X.1)).mono ?_
    rintro e w1 ⟨rfl, hb⟩
    replace X := X.to hb
    clear hb hr VB
    have hr := X.r3
    go_wp2
    refine bodyPost_ret (v := .tuple #[.agg #[.int .i64 0, .int .i64 0, .slice none 0 0], .int .i64 25]) ?_ rfl (SerPost.err (by have HX := X.1; have hz := HX.size; go_grown))
    simp [results, Try.results29, hr, go_sem]
  · subst h1
    have g1 : ((fr - fr').tmod st == 0) = false := by simpa using h2
    have g2 : ((fr - fr').tmod st != 0) = true := by simpa using h2
    clear h2
    obtain ⟨M, hM⟩ : ∃ M, (fr - fr').tmod st = M := ⟨_, rfl⟩
    rw [hM] at g1 g2
    have w2 : IntKind.i64.wrap ((fr - fr').tmod st) = M := w1.trans hM
    clear w1
    go_enter Try.func29, Try.ntmps29
    go_wp2_with fail
    refine (VA.out _ (HS.out.below X.1)).mono ?_
    rintro e w1 ⟨rfl, hb⟩
    replace X := X.to hb
    clear hb hr VA
    have hr := X.r3
    go_wp2_with fail
    refine (VB.out _ (HT.out.below X.1)).mono ?_
    rintro e w1 ⟨rfl, hb⟩
    replace X := X.to hb
    clear hb hr VB
    have hr := X.r3
    go_wp2
    refine bodyPost_ret (v := .tuple #[.agg #[.int .i64 0, .int .i64 0, .slice none 0 0], .int .i64 25]) ?_ rfl (SerPost.err (by have HX := X.1; have hz := HX.size; go_grown))
    simp [results, Try.results29, hr, go_sem]
end Go.Proofs.Ytkbocphpnmpaeaa
