/- The reference's Same of two records, and the law's none: whether they are equal; nothing that was there is turned. -/
import Derived.Test.YtkbocphpnmpaeaaGgFn
import Derived.Deep.QuietTactic
import Derived.BigQuiet
namespace Go.Proofs.Ytkbocphpnmpaeaa
open Go.RowKit

theorem own_drewN {w W : World} {L : List (Nat × TypeId × Array Value)} (h : Own w W L) (n : Nat) : Own w (W.drewN n) L := ⟨⟨h.1.os, h.1.tape, h.1.output, h.1.size, h.1.block⟩, fun x hx => (h.2 x hx).drewN n⟩
/-- two records are equal -/
def sameB (s t : Ser) : Bool := decide (s.fr = t.fr ∧ s.st = t.st ∧ s.ds = t.ds)
theorem sameB_no {fr st fr' st' : Int} {l m : List Int} (h : ¬ (fr = fr' ∧ st = st' ∧ l = m)) : sameB ⟨fr, st, l⟩ ⟨fr', st', m⟩ = false := decide_eq_false h
theorem sameB_yes {fr st fr' st' : Int} {l m : List Int} (h : fr = fr' ∧ st = st' ∧ l = m) : sameB ⟨fr, st, l⟩ ⟨fr', st', m⟩ = true := decide_eq_true h
theorem getD_ext {l m : List Int} (hn : l.length = m.length) (h : ∀ i, i < l.length → l.getD i 0 = m.getD i 0) : l = m := by
  refine List.ext_getElem hn (fun i h1 h2 => ?_)
  have := h i h1
  simpa [h1, h2] using this
set_option maxRecDepth 100000 in
set_option maxHeartbeats 4000000 in
theorem same_any (s : Ser) (a : SerA) (t : Ser) (b : SerA) (w : World) (hs : SerSl w s a) (ht : SerSl w t b) : Calls Try.prog 15 #[s.val a, t.val b] w (BPost (sameB s t) w) := by
  obtain ⟨fr, st, l⟩ := s
  obtain ⟨A, c⟩ := a
  obtain ⟨fr', st', m⟩ := t
  obtain ⟨B, c'⟩ := b
  have hl := hide hs.1
  have hm := hide ht.1
  have X := ((Own.start w).alloc #[.int .i64 fr, .int .i64 st, .slice A l.length c] 24).alloc #[.int .i64 fr', .int .i64 st', .slice B m.length c'] 24
  simp only [World.size_alloc] at X
  have ll : l.length ≤ 9223372036854775807 := hs.1.1.1
  clear hs ht
  have hr := X.r2
  show Calls Try.prog 15 #[.agg #[.int .i64 fr, .int .i64 st, .slice A l.length c], .agg #[.int .i64 fr', .int .i64 st', .slice B m.length c']] w _
  by_cases h1 : fr = fr'
  case neg =>
    have q1 : (fr == fr') = false := by simpa using h1
    have q2 : (fr != fr') = true := by simpa using h1
    have E := hide (sameB_no (l := l) (m := m) (st := st) (st' := st') (fun h => h1 h.1))
    clear h1
    go_enter Try.func15, Try.ntmps15
    go_wp2
    go_ret
    exact BPost.mk E.out X.1
  by_cases h2 : st = st'
  case neg =>
    have q2 : (st != st') = true := by simpa using h2
    have E := hide (sameB_no (fr := fr) (fr' := fr) (l := l) (m := m) (fun h => h2 h.2.1))
    subst h1
    clear h2
    go_enter Try.func15, Try.ntmps15
    go_wp2
    go_ret
    exact BPost.mk E.out X.1
  by_cases h3 : l.length = m.length
  case neg =>
    have q2 : ((l.length : Int) != (m.length : Int)) = true := by simp; omega
    have q1 : ((l.length : Int) == (m.length : Int)) = false := by simp; omega
    have E := hide (sameB_no (fr := fr) (fr' := fr) (st := st) (st' := st) (l := l) (m := m) (fun h => h3 (by rw [h.2.2])))
    subst h1 h2
    clear h3
    go_enter Try.func15, Try.ntmps15
    go_wp2
    go_ret
    exact BPost.mk E.out X.1
  subst h1 h2
  have q2 : ((l.length : Int) != (m.length : Int)) = false := by simp; omega
  have q1 : ((l.length : Int) == (m.length : Int)) = true := by simp; omega
  have H3 := hide h3
  clear h3
  go_enter Try.func15, Try.ntmps15
  go_wp2
  clear hr
  have XH := hide X
  clear X
  go_loopw [5] (fun v5 wr => ∃ k : Nat, k ≤ l.length ∧ v5 = .int .i64 (k : Int) ∧ Hid (Own w wr [(w.heap.size + 1, 24, #[.int .i64 fr, .int .i64 st, .slice B m.length c']), (w.heap.size, 24, #[.int .i64 fr, .int .i64 st, .slice A l.length c])] ∧ ∀ i, i < k → l.getD i 0 = m.getD i 0)) (fun v5 _ => l.length - (intOf v5).toNat)
  case atStart => exact ⟨0, Nat.zero_le _, rfl, hide ⟨XH.out, fun _ h => by omega⟩⟩
  case round =>
    obtain ⟨k, hk, rfl, Y⟩ := hrel
    have hr := Y.out.1.r2
    by_cases hlt : k < l.length
    · obtain ⟨g, off, rfl, hgl, hat⟩ := (hl.out.below Y.out.1.1).atg (by omega)
      obtain ⟨g', off', rfl, hgl', hat'⟩ := (hm.out.below Y.out.1.1).atg (by have := H3.out; omega)
      have c0 := hat k hlt
      have d0 := hat' k (by have := H3.out; omega)
      have g0 : (0 : Int) ≤ (k : Int) := by omega
      have g1 : (k : Int) < (l.length : Int) := by omega
      have g2 : (k : Int) < (m.length : Int) := by have := H3.out; omega
      clear hat hat' q1 q2
      by_cases e : l.getD k 0 = m.getD k 0
      · have HN := hide (fun i (hi : i < k + 1) => (by
          by_cases e' : i = k
          · subst e'; exact e
          · exact Y.out.2 i (by omega) : l.getD i 0 = m.getD i 0))
        have e1 : (m.getD k 0 != m.getD k 0) = false := by simp
        rw [e] at c0
        clear e
        generalize m.getD k 0 = y at *
        go_wp2
        go_quiet (fail)
        go_wp2
        go_roundw
        case rel => exact ⟨k + 1, by omega, by go_num, hide ⟨own_drewN Y.out.1 _, HN.out⟩⟩
        case measure => simp [intOf]; omega
      · have e1 : (l.getD k 0 != m.getD k 0) = true := by simpa using e
        have e2 : (l.getD k 0 == m.getD k 0) = false := by simpa using e
        have E := hide (sameB_no (fr := fr) (fr' := fr) (st := st) (st' := st) (l := l) (m := m) (fun h => e (by rw [h.2.2])))
        clear e
        generalize l.getD k 0 = x at *
        generalize m.getD k 0 = y at *
        go_wp2
        go_quiet (fail)
        go_wp2
        go_ret
        exact BPost.mk E.out (own_drewN Y.out.1 _).1
    · have E := hide (sameB_yes (fr := fr) (st := st) ⟨rfl, rfl, getD_ext H3.out (fun i hi => Y.out.2 i (by omega))⟩)
      clear q1 q2
      go_wp2
      go_ret
      exact BPost.mk E.out Y.out.1.1
set_option maxHeartbeats 1000000 in
theorem none_any (s : Ser) (a : SerA) (w : World) (hs : SerSl w s a) : Calls Try.prog 12 #[s.val a] w (BPost (sameB s ⟨0, 0, []⟩) w) := by
  have X := (Own.start w).alloc (s.cells a) 24
  have hr := X.r1
  have S := hide (fun W (h : SerSl W s a) => same_any s a ⟨0, 0, []⟩ ⟨none, 0⟩ W h ⟨IntSl.nil _ _, Nat.le_refl _, by decide, by decide⟩)
  have HS := hide hs
  clear hs
  go_enter Try.func12, Try.ntmps12
  go_wp2_with fail
  refine (S.out _ (HS.out.below X.1)).mono ?_
  rintro e w1 ⟨rfl, hb⟩
  replace X := X.to hb
  clear hb hr
  go_wp2
  go_ret
  exact ⟨rfl, X.1⟩
end Go.Proofs.Ytkbocphpnmpaeaa
