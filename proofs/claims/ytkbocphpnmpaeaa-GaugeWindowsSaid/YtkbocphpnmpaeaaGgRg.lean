/- The reference's Merge of valid records (printed by gen_rmerge.py). -/
import Derived.Test.YtkbocphpnmpaeaaGgRw0
import Derived.Test.YtkbocphpnmpaeaaGgMg2
import Derived.Test.YtkbocphpnmpaeaaGgRm
namespace Go.Proofs.Ytkbocphpnmpaeaa
open Go.RowKit

set_option maxRecDepth 100000 in
set_option maxHeartbeats 2000000 in
theorem rmerge_shape (s : Ser) (a : SerA) (t : Ser) (b : SerA) (w : World) (va : VS s) (vb : VS t) (h : s.st ≠ t.st ∨ (s.st = t.st ∧ (s.fr - t.fr).tmod s.st ≠ 0)) : Calls Try.prog 31 #[s.val a, t.val b] w (SerPost Ser0 25 w) := by
  obtain ⟨fr, st, l⟩ := s
  obtain ⟨A, c⟩ := a
  obtain ⟨fr', st', l'⟩ := t
  obtain ⟨A', c'⟩ := b
  have h' : st ≠ st' ∨ (st = st' ∧ (fr - fr').tmod st ≠ 0) := h
  clear h
  have v1 : 1 ≤ st ∧ st ≤ 86400 := va.st
  have f1 : -68719476736 ≤ fr ∧ fr ≤ 68719476736 := va.fr
  have f2 : -68719476736 ≤ fr' ∧ fr' ≤ 68719476736 := vb.fr
  have X := (((Own.start w).alloc #[.int .i64 fr, .int .i64 st, .slice A l.length c] 24).alloc #[.int .i64 fr', .int .i64 st', .slice A' l'.length c'] 24).alloc #[.int .i64 0, .int .i64 0, .slice none 0 0] 24
  simp only [World.size_alloc] at X
  have s1 := IntWalk.i64_in (fr - fr') (by omega)
  have q5 : (st == 0) = false := beq_eq_false_iff_ne.2 (by omega)
  have q6 : ¬ st = 0 := by omega
  have tb : -86400 ≤ (fr - fr').tmod st ∧ (fr - fr').tmod st ≤ 86400 := by
    have := Int.tmod_lt_of_pos (fr - fr') (show 0 < st by omega)
    have h2 := Int.lt_tmod_of_pos (fr - fr') (show 0 < st by omega)
    omega
  have w1 : IntKind.i64.wrap ((fr - fr').tmod st) = (fr - fr').tmod st := IntWalk.i64_in _ (by omega)
  clear va vb f1 f2 v1 tb
  have hr := X.r3
  show Calls Try.prog 31 #[.agg #[.int .i64 fr, .int .i64 st, .slice A l.length c], .agg #[.int .i64 fr', .int .i64 st', .slice A' l'.length c']] w _
  rcases h' with h | ⟨h1, h2⟩
  · have g1 : (st != st') = true := by simpa using h
    have g2 : (st == st') = false := by simpa using h
    clear h
    go_enter Try.func31, Try.ntmps31
    go_wp2
    refine bodyPost_ret (v := .tuple #[.agg #[.int .i64 0, .int .i64 0, .slice none 0 0], .int .i64 25]) ?_ rfl (SerPost.err (by have HX := X.1; have hz := HX.size; go_grown))
    simp [results, Try.results31, hr, go_sem]
  · subst h1
    have g1 : ((fr - fr').tmod st == 0) = false := by simpa using h2
    have g2 : ((fr - fr').tmod st != 0) = true := by simpa using h2
    clear h2
    obtain ⟨M, hM⟩ : ∃ M, (fr - fr').tmod st = M := ⟨_, rfl⟩
    rw [hM] at g1 g2
    have w2 : IntKind.i64.wrap ((fr - fr').tmod st) = M := w1.trans hM
    clear w1
    go_enter Try.func31, Try.ntmps31
    go_wp2
    refine bodyPost_ret (v := .tuple #[.agg #[.int .i64 0, .int .i64 0, .slice none 0 0], .int .i64 25]) ?_ rfl (SerPost.err (by have HX := X.1; have hz := HX.size; go_grown))
    simp [results, Try.results31, hr, go_sem]
set_option maxRecDepth 100000 in
set_option maxHeartbeats 4000000 in
theorem rmerge_full (fr fr' st : Int) (l l' : List Int) (A A' : Option Addr) (c c' : Nat) (w : World) (hs : SerSl w ⟨fr, st, l⟩ ⟨A, c⟩) (ht : SerSl w ⟨fr', st, l'⟩ ⟨A', c'⟩) (va : VS ⟨fr, st, l⟩) (vb : VS ⟨fr', st, l'⟩) (h0 : (fr - fr').tmod st = 0) (hn : 10000 < mgN ⟨fr, st, l⟩ ⟨fr', st, l'⟩) :
    Calls Try.prog 31 #[.agg #[.int .i64 fr, .int .i64 st, .slice A l.length c], .agg #[.int .i64 fr', .int .i64 st, .slice A' l'.length c']] w (SerPost Ser0 4 w) := by
  have v1 : 1 ≤ st ∧ st ≤ 86400 := va.st
  have f1 : -68719476736 ≤ fr ∧ fr ≤ 68719476736 := va.fr
  have f2 : -68719476736 ≤ fr' ∧ fr' ≤ 68719476736 := vb.fr
  have MB := mg_bd va vb
  have MT := hide (fun k (hk : k < mgN ⟨fr, st, l⟩ ⟨fr', st, l'⟩) => mg_t va vb hk)
  have MV := hide (fun t => mgV_bd va vb t)
  have AB := hide (fun t => atS_bd va t)
  have AT : Hid (∀ W t, SerSl W ⟨fr, st, l⟩ ⟨A, c⟩ → -68719476736 ≤ t ∧ t ≤ 68719476736 → Calls Try.prog 48 #[.agg #[.int .i64 fr, .int .i64 st, .slice A l.length c], .int .i64 t] W (NPost (atS ⟨fr, st, l⟩ t) W)) := hide (fun W t h ht => rat_any ⟨fr, st, l⟩ ⟨A, c⟩ t W h va ht)
  have BT : Hid (∀ W t, SerSl W ⟨fr', st, l'⟩ ⟨A', c'⟩ → -68719476736 ≤ t ∧ t ≤ 68719476736 → Calls Try.prog 48 #[.agg #[.int .i64 fr', .int .i64 st, .slice A' l'.length c'], .int .i64 t] W (NPost (atS ⟨fr', st, l'⟩ t) W)) := hide (fun W t h ht => rat_any ⟨fr', st, l'⟩ ⟨A', c'⟩ t W h vb ht)
  obtain ⟨mf, mea, meb, mb0, mb1, mb2, mb3⟩ := MB
  obtain ⟨pa, hpa⟩ : ∃ pa, pa = st * (l.length : Int) := ⟨_, rfl⟩
  obtain ⟨pb, hpb⟩ : ∃ pb, pb = st * (l'.length : Int) := ⟨_, rfl⟩
  obtain ⟨ea, hea⟩ : ∃ ea, ea = enS ⟨fr, st, l⟩ := ⟨_, rfl⟩
  obtain ⟨eb, heb⟩ : ∃ eb, eb = enS ⟨fr', st, l'⟩ := ⟨_, rfl⟩
  have ea1 : ea = fr + pa := by rw [hea, hpa]; rfl
  have eb1 : eb = fr' + pb := by rw [heb, hpb]; rfl
  rw [← hea] at mea
  rw [← heb] at meb
  obtain ⟨F, hF⟩ : ∃ F, F = mgF ⟨fr, st, l⟩ ⟨fr', st, l'⟩ := ⟨_, rfl⟩
  obtain ⟨M, hM⟩ : ∃ M, M = max ea eb := ⟨_, rfl⟩
  have hF1 : F = min fr fr' := hF
  rw [← hF] at mf
  rw [← hea, ← heb, ← hM, ← hF] at mb0 mb1 mb2 mb3
  have mb3' : (mgN ⟨fr, st, l⟩ ⟨fr', st, l'⟩ : Int) = (M - F) / st := mb3
  have nb : (mgN ⟨fr, st, l⟩ ⟨fr', st, l'⟩ : Int) ≤ 137438953472 := by rw [mb3']; exact mb2
  have MSU := hide (fun i => mgL_succ ⟨fr, st, l⟩ ⟨fr', st, l'⟩ i)
  have MG0 : Hid (mgL ⟨fr, st, l⟩ ⟨fr', st, l'⟩ 0 = []) := hide rfl
  have MLN := hide (fun i => mgL_length ⟨fr, st, l⟩ ⟨fr', st, l'⟩ i)
  have MBD : Hid (∀ i, ∀ u ∈ mgL ⟨fr, st, l⟩ ⟨fr', st, l'⟩ i, -9223372036854775808 ≤ u ∧ u ≤ 9223372036854775807) := hide (fun i u hu => by
    obtain ⟨j, _, rfl⟩ := List.mem_map.1 hu
    have := MV.out (mgF ⟨fr, st, l⟩ ⟨fr', st, l'⟩ + st * (j : Int))
    have h2 : -1 ≤ mgV ⟨fr, st, l⟩ ⟨fr', st, l'⟩ (mgF ⟨fr, st, l⟩ ⟨fr', st, l'⟩ + st * (j : Int)) ∧ mgV ⟨fr, st, l⟩ ⟨fr', st, l'⟩ (mgF ⟨fr, st, l⟩ ⟨fr', st, l'⟩ + st * (j : Int)) ≤ 4194304 := this
    exact ⟨Int.le_trans (by decide) h2.1, Int.le_trans h2.2 (by decide)⟩)
  have AV : Hid (∀ t, mgV ⟨fr, st, l⟩ ⟨fr', st, l'⟩ t = if atS ⟨fr, st, l⟩ t = -1 then atS ⟨fr', st, l'⟩ t else atS ⟨fr, st, l⟩ t) := hide (fun t => rfl)
  rw [← hF] at MT MSU
  have MT' : Hid (∀ k, k < mgN ⟨fr, st, l⟩ ⟨fr', st, l'⟩ → 0 ≤ st * (k : Int) ∧ st * (k : Int) ≤ 137438953472 ∧ -68719476736 ≤ F + st * (k : Int) ∧ F + st * (k : Int) ≤ 68719476736) := MT
  have ms' : Hid (∀ i : Nat, mgL ⟨fr, st, l⟩ ⟨fr', st, l'⟩ (i + 1) = mgL ⟨fr, st, l⟩ ⟨fr', st, l'⟩ i ++ [mgV ⟨fr, st, l⟩ ⟨fr', st, l'⟩ (F + st * (i : Int))]) := MSU
  have AB' : Hid (∀ t, -1 ≤ atS ⟨fr, st, l⟩ t) := hide (fun t => (AB.out t).1)
  clear MT MSU mb3 AB
  generalize mgN ⟨fr, st, l⟩ ⟨fr', st, l'⟩ = N at *
  have y1 : IntKind.i64.wrap (st * (l.length : Int)) = pa := by rw [← hpa]; exact IntWalk.i64_in _ (by omega)
  have y2 : IntKind.i64.wrap (fr + pa) = ea := by rw [← ea1]; exact IntWalk.i64_in _ (by omega)
  have y3 : IntKind.i64.wrap (st * (l'.length : Int)) = pb := by rw [← hpb]; exact IntWalk.i64_in _ (by omega)
  have y4 : IntKind.i64.wrap (fr' + pb) = eb := by rw [← eb1]; exact IntWalk.i64_in _ (by omega)
  have y5 : (if fr' < fr then fr' else fr) = F := by rw [hF1]; split <;> omega
  have y6 : (if ea < eb then eb else ea) = M := by rw [hM]; split <;> omega
  have x1 := IntWalk.i64_in (fr - fr') (by omega)
  have x2 : IntKind.i64.wrap ((fr - fr').tmod st) = 0 := by rw [h0]; decide
  have x3 : IntKind.i64.wrap (M - F) = M - F := IntWalk.i64_in _ (by omega)
  have x4 : (M - F).tdiv st = (N : Int) := by rw [Int.tdiv_eq_ediv_of_nonneg mb0, mb3']
  have x5 : IntKind.i64.wrap ((M - F).tdiv st) = (N : Int) := by rw [x4]; exact IntWalk.i64_in _ (by omega)
  have x6 : IntKind.i64.wrap (N : Int) = (N : Int) := IntWalk.i64_in _ (by omega)
  have x7 : decide ((10000 : Int) < (N : Int)) = true := decide_eq_true (by omega)
  have x8 : decide (10000 < N) = true := decide_eq_true (by omega)
  have q5 : (st == 0) = false := beq_eq_false_iff_ne.2 (by omega)
  have q6 : ¬ st = 0 := by omega
  have HB0 := hide (And.intro v1 (And.intro f1 (And.intro f2 mf)))
  have HS := hide hs
  have HT := hide ht
  have X := (((Own.start w).alloc #[.int .i64 fr, .int .i64 st, .slice A l.length c] 24).alloc #[.int .i64 fr', .int .i64 st, .slice A' l'.length c'] 24).alloc #[.int .i64 0, .int .i64 0, .slice none 0 0] 24
  simp only [World.size_alloc] at X
  have HH := hide (And.intro hF1 (And.intro hM (And.intro ea1 eb1)))
  clear hs ht va vb f1 f2 v1 mf mea meb mb0 mb1 mb2 mb3' hea heb hpa hpb ea1 eb1 hF1 hF hM
  have hr := X.r3
  go_enter Try.func31, Try.ntmps31
  go_wp2
  refine bodyPost_ret (v := .tuple #[.agg #[.int .i64 0, .int .i64 0, .slice none 0 0], .int .i64 4]) ?_ rfl (SerPost.err (by have HX := X.1; have hz := HX.size; go_grown))
  simp [results, Try.results31, hr, go_sem]
set_option maxRecDepth 100000 in
set_option maxHeartbeats 4000000 in
theorem rmerge_in (fr fr' st : Int) (l l' : List Int) (A A' : Option Addr) (c c' : Nat) (w : World) (hs : SerSl w ⟨fr, st, l⟩ ⟨A, c⟩) (ht : SerSl w ⟨fr', st, l'⟩ ⟨A', c'⟩) (va : VS ⟨fr, st, l⟩) (vb : VS ⟨fr', st, l'⟩) (h0 : (fr - fr').tmod st = 0) (hn : mgN ⟨fr, st, l⟩ ⟨fr', st, l'⟩ ≤ 10000) :
    Calls Try.prog 31 #[.agg #[.int .i64 fr, .int .i64 st, .slice A l.length c], .agg #[.int .i64 fr', .int .i64 st, .slice A' l'.length c']] w (SerPost ⟨mgF ⟨fr, st, l⟩ ⟨fr', st, l'⟩, st, mgL ⟨fr, st, l⟩ ⟨fr', st, l'⟩ (mgN ⟨fr, st, l⟩ ⟨fr', st, l'⟩)⟩ 0 w) := by
  have v1 : 1 ≤ st ∧ st ≤ 86400 := va.st
  have f1 : -68719476736 ≤ fr ∧ fr ≤ 68719476736 := va.fr
  have f2 : -68719476736 ≤ fr' ∧ fr' ≤ 68719476736 := vb.fr
  have MB := mg_bd va vb
  have MT := hide (fun k (hk : k < mgN ⟨fr, st, l⟩ ⟨fr', st, l'⟩) => mg_t va vb hk)
  have MV := hide (fun t => mgV_bd va vb t)
  have AB := hide (fun t => atS_bd va t)
  have AT : Hid (∀ W t, SerSl W ⟨fr, st, l⟩ ⟨A, c⟩ → -68719476736 ≤ t ∧ t ≤ 68719476736 → Calls Try.prog 48 #[.agg #[.int .i64 fr, .int .i64 st, .slice A l.length c], .int .i64 t] W (NPost (atS ⟨fr, st, l⟩ t) W)) := hide (fun W t h ht => rat_any ⟨fr, st, l⟩ ⟨A, c⟩ t W h va ht)
  have BT : Hid (∀ W t, SerSl W ⟨fr', st, l'⟩ ⟨A', c'⟩ → -68719476736 ≤ t ∧ t ≤ 68719476736 → Calls Try.prog 48 #[.agg #[.int .i64 fr', .int .i64 st, .slice A' l'.length c'], .int .i64 t] W (NPost (atS ⟨fr', st, l'⟩ t) W)) := hide (fun W t h ht => rat_any ⟨fr', st, l'⟩ ⟨A', c'⟩ t W h vb ht)
  obtain ⟨mf, mea, meb, mb0, mb1, mb2, mb3⟩ := MB
  obtain ⟨pa, hpa⟩ : ∃ pa, pa = st * (l.length : Int) := ⟨_, rfl⟩
  obtain ⟨pb, hpb⟩ : ∃ pb, pb = st * (l'.length : Int) := ⟨_, rfl⟩
  obtain ⟨ea, hea⟩ : ∃ ea, ea = enS ⟨fr, st, l⟩ := ⟨_, rfl⟩
  obtain ⟨eb, heb⟩ : ∃ eb, eb = enS ⟨fr', st, l'⟩ := ⟨_, rfl⟩
  have ea1 : ea = fr + pa := by rw [hea, hpa]; rfl
  have eb1 : eb = fr' + pb := by rw [heb, hpb]; rfl
  rw [← hea] at mea
  rw [← heb] at meb
  obtain ⟨F, hF⟩ : ∃ F, F = mgF ⟨fr, st, l⟩ ⟨fr', st, l'⟩ := ⟨_, rfl⟩
  obtain ⟨M, hM⟩ : ∃ M, M = max ea eb := ⟨_, rfl⟩
  have hF1 : F = min fr fr' := hF
  rw [← hF] at mf
  rw [← hea, ← heb, ← hM, ← hF] at mb0 mb1 mb2 mb3
  have mb3' : (mgN ⟨fr, st, l⟩ ⟨fr', st, l'⟩ : Int) = (M - F) / st := mb3
  have nb : (mgN ⟨fr, st, l⟩ ⟨fr', st, l'⟩ : Int) ≤ 137438953472 := by rw [mb3']; exact mb2
  have MSU := hide (fun i => mgL_succ ⟨fr, st, l⟩ ⟨fr', st, l'⟩ i)
  have MG0 : Hid (mgL ⟨fr, st, l⟩ ⟨fr', st, l'⟩ 0 = []) := hide rfl
  have MLN := hide (fun i => mgL_length ⟨fr, st, l⟩ ⟨fr', st, l'⟩ i)
  have MBD : Hid (∀ i, ∀ u ∈ mgL ⟨fr, st, l⟩ ⟨fr', st, l'⟩ i, -9223372036854775808 ≤ u ∧ u ≤ 9223372036854775807) := hide (fun i u hu => by
    obtain ⟨j, _, rfl⟩ := List.mem_map.1 hu
    have := MV.out (mgF ⟨fr, st, l⟩ ⟨fr', st, l'⟩ + st * (j : Int))
    have h2 : -1 ≤ mgV ⟨fr, st, l⟩ ⟨fr', st, l'⟩ (mgF ⟨fr, st, l⟩ ⟨fr', st, l'⟩ + st * (j : Int)) ∧ mgV ⟨fr, st, l⟩ ⟨fr', st, l'⟩ (mgF ⟨fr, st, l⟩ ⟨fr', st, l'⟩ + st * (j : Int)) ≤ 4194304 := this
    exact ⟨Int.le_trans (by decide) h2.1, Int.le_trans h2.2 (by decide)⟩)
  have AV : Hid (∀ t, mgV ⟨fr, st, l⟩ ⟨fr', st, l'⟩ t = if atS ⟨fr, st, l⟩ t = -1 then atS ⟨fr', st, l'⟩ t else atS ⟨fr, st, l⟩ t) := hide (fun t => rfl)
  rw [← hF]
  rw [← hF] at MT MSU
  have MT' : Hid (∀ k, k < mgN ⟨fr, st, l⟩ ⟨fr', st, l'⟩ → 0 ≤ st * (k : Int) ∧ st * (k : Int) ≤ 137438953472 ∧ -68719476736 ≤ F + st * (k : Int) ∧ F + st * (k : Int) ≤ 68719476736) := MT
  have ms' : Hid (∀ i : Nat, mgL ⟨fr, st, l⟩ ⟨fr', st, l'⟩ (i + 1) = mgL ⟨fr, st, l⟩ ⟨fr', st, l'⟩ i ++ [mgV ⟨fr, st, l⟩ ⟨fr', st, l'⟩ (F + st * (i : Int))]) := MSU
  have AB' : Hid (∀ t, -1 ≤ atS ⟨fr, st, l⟩ t) := hide (fun t => (AB.out t).1)
  clear MT MSU mb3 AB
  generalize mgN ⟨fr, st, l⟩ ⟨fr', st, l'⟩ = N at *
  have y1 : IntKind.i64.wrap (st * (l.length : Int)) = pa := by rw [← hpa]; exact IntWalk.i64_in _ (by omega)
  have y2 : IntKind.i64.wrap (fr + pa) = ea := by rw [← ea1]; exact IntWalk.i64_in _ (by omega)
  have y3 : IntKind.i64.wrap (st * (l'.length : Int)) = pb := by rw [← hpb]; exact IntWalk.i64_in _ (by omega)
  have y4 : IntKind.i64.wrap (fr' + pb) = eb := by rw [← eb1]; exact IntWalk.i64_in _ (by omega)
  have y5 : (if fr' < fr then fr' else fr) = F := by rw [hF1]; split <;> omega
  have y6 : (if ea < eb then eb else ea) = M := by rw [hM]; split <;> omega
  have x1 := IntWalk.i64_in (fr - fr') (by omega)
  have x2 : IntKind.i64.wrap ((fr - fr').tmod st) = 0 := by rw [h0]; decide
  have x3 : IntKind.i64.wrap (M - F) = M - F := IntWalk.i64_in _ (by omega)
  have x4 : (M - F).tdiv st = (N : Int) := by rw [Int.tdiv_eq_ediv_of_nonneg mb0, mb3']
  have x5 : IntKind.i64.wrap ((M - F).tdiv st) = (N : Int) := by rw [x4]; exact IntWalk.i64_in _ (by omega)
  have x6 : IntKind.i64.wrap (N : Int) = (N : Int) := IntWalk.i64_in _ (by omega)
  have x7 : decide ((10000 : Int) < (N : Int)) = false := decide_eq_false (by omega)
  have x8 : decide (10000 < N) = false := decide_eq_false (by omega)
  have q5 : (st == 0) = false := beq_eq_false_iff_ne.2 (by omega)
  have q6 : ¬ st = 0 := by omega
  have HB0 := hide (And.intro v1 (And.intro f1 (And.intro f2 mf)))
  have HS := hide hs
  have HT := hide ht
  have X := (((Own.start w).alloc #[.int .i64 fr, .int .i64 st, .slice A l.length c] 24).alloc #[.int .i64 fr', .int .i64 st, .slice A' l'.length c'] 24).alloc #[.int .i64 0, .int .i64 0, .slice none 0 0] 24
  simp only [World.size_alloc] at X
  have HH := hide (And.intro hF1 (And.intro hM (And.intro ea1 eb1)))
  clear hs ht va vb f1 f2 v1 mf mea meb mb0 mb1 mb2 mb3' hea heb hpa hpb ea1 eb1 hF1 hF hM
  replace X := X.alloc #[.int .i64 F, .int .i64 st, .slice none 0 0] 24
  simp only [World.size_alloc] at X
  have hr := X.r4
  obtain ⟨WW, hWW⟩ : ∃ WW, WW = ((((w.alloc (.cells #[.int .i64 fr, .int .i64 st, .slice A l.length c] 24)).alloc (.cells #[.int .i64 fr', .int .i64 st, .slice A' l'.length c'] 24)).alloc (.cells #[.int .i64 0, .int .i64 0, .slice none 0 0] 24)).alloc (.cells #[.int .i64 F, .int .i64 st, .slice none 0 0] 24)) := ⟨_, rfl⟩
  have XW : Own w WW ((w.heap.size + 1 + 1 + 1, 24, #[.int .i64 F, .int .i64 st, .slice none 0 0]) :: [(w.heap.size + 1 + 1, 24, #[.int .i64 0, .int .i64 0, .slice none 0 0]), (w.heap.size + 1, 24, #[.int .i64 fr', .int .i64 st, .slice A' l'.length c']), (w.heap.size, 24, #[.int .i64 fr, .int .i64 st, .slice A l.length c])]) := by rw [hWW]; exact X
  have G0 : Gat w WW WW.heap.size (w.heap.size + 1 + 1 + 1) F st [(w.heap.size + 1 + 1, 24, #[.int .i64 0, .int .i64 0, .slice none 0 0]), (w.heap.size + 1, 24, #[.int .i64 fr', .int .i64 st, .slice A' l'.length c']), (w.heap.size, 24, #[.int .i64 fr, .int .i64 st, .slice A l.length c])] [] (.slice none 0 0) 0 (mgL ⟨fr, st, l⟩ ⟨fr', st, l'⟩ 0) := by
    have loW : w.heap.size + 1 + 1 + 1 < WW.heap.size := XW.r1.2.2
    refine ⟨XW, by rw [MG0.out]; exact World.ownsRow_nil _ _ _ _, fun p hp => by simp at hp, ⟨Nat.le_refl _, XW.1.size, by omega⟩, ?_, ?_⟩
    · intro x hx
      simp only [List.mem_cons, List.not_mem_nil, or_false] at hx
      rcases hx with rfl | rfl | rfl
      · show (3 : TypeId) ≠ 24; decide
      · show (3 : TypeId) ≠ 24; decide
      · show (3 : TypeId) ≠ 24; decide
    · intro x hx
      simp only [List.mem_cons, List.not_mem_nil, or_false] at hx
      rcases hx with rfl | rfl | rfl
      · show w.heap.size + 1 + 1 ≠ w.heap.size + 1 + 1 + 1; omega
      · show w.heap.size + 1 ≠ w.heap.size + 1 + 1 + 1; omega
      · show w.heap.size ≠ w.heap.size + 1 + 1 + 1; omega
  have GH := hide G0
  clear G0 X
  replace XW := hide XW
  generalize hB2 : WW.heap.size = B2 at *
  replace hB2 := hide hB2
  have hr3 := hr
  go_enter Try.func31, Try.ntmps31
  go_wp2
  rw [← hWW]
  clear hr hr3 hWW
  generalize hoo : w.heap.size + 1 + 1 + 1 = o at *
  go_loopw [10, 11, 12] (fun v10 v11 v12 wr => ∃ (i : Nat) (v : Value), i ≤ N ∧ v10 = .int .i64 (i : Int) ∧ Hid (Gat w wr B2 o F st [(w.heap.size + 1 + 1, 24, #[.int .i64 0, .int .i64 0, .slice none 0 0]), (w.heap.size + 1, 24, #[.int .i64 fr', .int .i64 st, .slice A' l'.length c']), (w.heap.size, 24, #[.int .i64 fr, .int .i64 st, .slice A l.length c])] [] v i (mgL ⟨fr, st, l⟩ ⟨fr', st, l'⟩ i))) (fun v10 _ _ _ => N - (intOf v10).toNat)
  case atStart => exact ⟨0, .slice none 0 0, by omega, rfl, GH⟩
  case round =>
    obtain ⟨i, v, hi, rfl, Y⟩ := hrel
    obtain ⟨j0, hj0, hz0, hz1, hz2⟩ := info_parts int_info17
    by_cases hlt : i < N
    · obtain ⟨t1, t2, t3, t4⟩ := MT'.out i hlt
      obtain ⟨p, hp⟩ : ∃ p, p = st * (i : Int) := ⟨_, rfl⟩
      obtain ⟨T, hT⟩ : ∃ T, T = F + p := ⟨_, rfl⟩
      have E1 := ms'.out i
      rw [← hp, ← hT] at E1
      rw [← hp] at t1 t2 t3 t4
      rw [← hT] at t3 t4
      have s1 : IntKind.i64.wrap ((i : Int) * st) = p := by rw [Int.mul_comm, ← hp]; exact IntWalk.i64_in _ (by omega)
      have s2 : IntKind.i64.wrap (F + p) = T := by rw [← hT]; exact IntWalk.i64_in _ (by omega)
      replace E1 := hide E1
      have EV := hide (AV.out T)
      have CA := hide (AT.out wr T (HS.out.below Y.out.own.1) ⟨t3, t4⟩)
      have CB := hide (fun W (h : SerSl W ⟨fr', st, l'⟩ ⟨A', c'⟩) => BT.out W T h ⟨t3, t4⟩)
      have ub := AB'.out T
      have hr := Y.out.own.r4
      clear hp hT t1 t2 t3 t4
      generalize mgL ⟨fr, st, l⟩ ⟨fr', st, l'⟩ i = L0 at *
      generalize hd : mgV ⟨fr, st, l⟩ ⟨fr', st, l'⟩ T = d at *
      generalize atS ⟨fr, st, l⟩ T = u1 at *
      generalize atS ⟨fr', st, l'⟩ T = u2 at *
      clear hd
      by_cases e : u1 = -1
      · have ED : Hid (d = u2) := hide (EV.out.trans (if_pos e))
        have e2 : decide (u1 < 0) = true := decide_eq_true (by omega)
        clear EV e ub
        go_wp2_with fail
        refine CA.out.mono ?_
        rintro e w4 ⟨rfl, hb4⟩
        have Y4 := hide (Y.out.to hb4)
        clear hr CA
        have hr := Y4.out.own.r4
        go_wp2_with fail
        refine (CB.out _ (HT.out.below Y4.out.own.1)).mono ?_
        rintro e w5 ⟨rfl, hb5⟩
        have hb0 := hb4.trans (hb5.mono hb4.size)
        clear hb4 hb5 CB Y4
        have f0' : (0 : Nat) < 1 := by decide
        have f1 : i + 1 ≤ maxLen := by unfold maxLen; omega
        have f2 : (i + 1) * 8 ≤ 140737488355328 := by omega
        have f4 : ∀ u ∈ [Value.int .i64 u2], u.oneCell' = true := by intro u hu; simp at hu; subst hu; rfl
        have Y3 := hide (Y.out.to hb0)
        have hr3 := Y3.out.own.r4
        clear hb0 hr
        go_wp2_with (at_builtin; refine wpList_append_lies _ rfl _ _ 22 rfl B2 3 j0 (.int .i64 0) 1 8 Try.underlying22 hj0 hz0 hz1 hz2 rfl (by decide) _ i (L0.map (Value.int .i64)) rfl (Y3.out.row.alloc (.cells #[.int .i64 u2] 3)) ⟨w5.heap.size, 0, none⟩ 1 1 [.int .i64 u2] rfl rfl (World.news_of_block (cs := #[.int .i64 u2]) (t := 3) (fr := (0, 0)) (heap_alloc_new w5 _)) f4 f0' f1 f2 (by have := Y3.out.b2.1; simp; omega) (w5.heap.size + 1) (by simp) ?_; intro gg cp w6 hown6 hgrow hat6 hlt6; have hr6 := ((Y3.out.alloc (.cells #[.int .i64 u2] 3)).grown hgrow).r4)
        have Y5 := hide ((Y3.out.alloc (.cells #[.int .i64 u2] 3)).app (L4 := L0 ++ [u2]) (by rw [List.map_append]; exact hown6) hgrow)
        clear Y3 hown6 hgrow hr6 hr3
        go_roundw
        case rel => exact ⟨i + 1, _, by omega, by go_num, by rw [E1.out, ED.out]; exact Y5⟩
        case measure => simp [intOf]; omega
      · have ED : Hid (d = u1) := hide (EV.out.trans (if_neg e))
        have e1 : decide (u1 < 0) = false := decide_eq_false (by omega)
        clear EV e ub
        go_wp2_with fail
        refine CA.out.mono ?_
        rintro e w5 ⟨rfl, hb0⟩
        clear CA CB
        have f0' : (0 : Nat) < 1 := by decide
        have f1 : i + 1 ≤ maxLen := by unfold maxLen; omega
        have f2 : (i + 1) * 8 ≤ 140737488355328 := by omega
        have f4 : ∀ u ∈ [Value.int .i64 u1], u.oneCell' = true := by intro u hu; simp at hu; subst hu; rfl
        have Y3 := hide (Y.out.to hb0)
        have hr3 := Y3.out.own.r4
        clear hb0 hr
        go_wp2_with (at_builtin; refine wpList_append_lies _ rfl _ _ 22 rfl B2 3 j0 (.int .i64 0) 1 8 Try.underlying22 hj0 hz0 hz1 hz2 rfl (by decide) _ i (L0.map (Value.int .i64)) rfl (Y3.out.row.alloc (.cells #[.int .i64 u1] 3)) ⟨w5.heap.size, 0, none⟩ 1 1 [.int .i64 u1] rfl rfl (World.news_of_block (cs := #[.int .i64 u1]) (t := 3) (fr := (0, 0)) (heap_alloc_new w5 _)) f4 f0' f1 f2 (by have := Y3.out.b2.1; simp; omega) (w5.heap.size + 1) (by simp) ?_; intro gg cp w6 hown6 hgrow hat6 hlt6; have hr6 := ((Y3.out.alloc (.cells #[.int .i64 u1] 3)).grown hgrow).r4)
        have Y5 := hide ((Y3.out.alloc (.cells #[.int .i64 u1] 3)).app (L4 := L0 ++ [u1]) (by rw [List.map_append]; exact hown6) hgrow)
        clear Y3 hown6 hgrow hr6 hr3
        go_roundw
        case rel => exact ⟨i + 1, _, by omega, by go_num, by rw [E1.out, ED.out]; exact Y5⟩
        case measure => simp [intOf]; omega
    · obtain rfl : i = N := by omega
      have hN := MLN.out i
      have bd := MBD.out i
      obtain ⟨g', cp, rfl⟩ : ∃ A c, v = .slice A i c := by
        rcases Y.out.row.2 with ⟨rfl, h0⟩ | ⟨g, cap, _, rfl, _⟩
        · subst h0; exact ⟨none, 0, rfl⟩
        · exact ⟨_, cap, rfl⟩
      have PO := hide (fun x y z => Y.out.post (rb := w.heap.size + 1 + 1) (List.mem_cons_self ..) (by omega) x y z bd (by omega) (by have := HB0.out.2; omega) (by have := HB0.out.1; omega))
      have hr := Y.out.own.r4
      clear bd hN
      go_wp2
      refine bodyPost_ret (v := .tuple #[.agg #[.int .i64 F, .int .i64 st, .slice g' i cp], .int .i64 0]) ?_ rfl ?_
      · simp [results, Try.results31, hr, go_sem]
      · exact PO.out _ _ _
theorem rmerge_any (s : Ser) (a : SerA) (t : Ser) (b : SerA) (w : World) (hs : SerSl w s a) (ht : SerSl w t b) (v : VS s) (v' : VS t) : Calls Try.prog 31 #[s.val a, t.val b] w (SerPost (mgS s t) (mgE s t) w) := by
  have eV : (vS s && vS t) = true := by rw [vS_iff.2 v, vS_iff.2 v']; rfl
  by_cases h3 : s.st = t.st ∧ (s.fr - t.fr).tmod s.st = 0
  rotate_left
  · have e : mgE s t = 25 := by rw [mgE, if_pos eV, if_neg h3]
    rw [mgS, e, if_neg (by decide)]
    refine rmerge_shape s a t b w v v' ?_
    by_cases c : s.st = t.st
    · exact .inr ⟨c, fun x => h3 ⟨c, x⟩⟩
    · exact .inl c
  obtain ⟨fr, st, l⟩ := s
  obtain ⟨A, c⟩ := a
  obtain ⟨fr', st', l'⟩ := t
  obtain ⟨A', c'⟩ := b
  obtain ⟨h4, h5⟩ := h3
  have h4' : st = st' := h4
  subst h4'
  have h5' : (fr - fr').tmod st = 0 := h5
  by_cases h6 : 10000 < mgN ⟨fr, st, l⟩ ⟨fr', st, l'⟩
  · have e : mgE ⟨fr, st, l⟩ ⟨fr', st, l'⟩ = 4 := by rw [mgE, if_pos eV, if_pos ⟨rfl, h5⟩, if_pos h6]
    rw [mgS, e, if_neg (by decide)]
    exact rmerge_full fr fr' st l l' A A' c c' w hs ht v v' h5' h6
  · have e : mgE ⟨fr, st, l⟩ ⟨fr', st, l'⟩ = 0 := by rw [mgE, if_pos eV, if_pos ⟨rfl, h5⟩, if_neg h6]
    rw [mgS, e, if_pos rfl]
    exact rmerge_in fr fr' st l l' A A' c c' w hs ht v v' h5' (by omega)
end Go.Proofs.Ytkbocphpnmpaeaa
