/- The program's Merge of any two records: what it returns; nothing that was there is turned. -/
import Derived.Test.YtkbocphpnmpaeaaGgMg2
import Derived.Test.YtkbocphpnmpaeaaGgMg3
import Derived.Test.YtkbocphpnmpaeaaGgMg4
import Derived.Test.YtkbocphpnmpaeaaGgMg5
namespace Go.Proofs.Ytkbocphpnmpaeaa
open Go.RowKit

theorem merge_any (s : Ser) (a : SerA) (t : Ser) (b : SerA) (w : World) (hs : SerSl w s a) (ht : SerSl w t b) : Calls Try.prog 29 #[s.val a, t.val b] w (SerPost (mgS s t) (mgE s t) w) := by
  rcases Bool.eq_false_or_eq_true (vS s) with h1 | h1
  rotate_left
  · have e : mgE s t = 1 := by simp [mgE, h1]
    rw [mgS, e, if_neg (by decide)]
    exact merge_bad s a t b w hs ht (.inl h1)
  rcases Bool.eq_false_or_eq_true (vS t) with h2 | h2
  rotate_left
  · have e : mgE s t = 1 := by simp [mgE, h2]
    rw [mgS, e, if_neg (by decide)]
    exact merge_bad s a t b w hs ht (.inr ⟨h1, h2⟩)
  have eV : (vS s && vS t) = true := by rw [h1, h2]; rfl
  by_cases h3 : s.st = t.st ∧ (s.fr - t.fr).tmod s.st = 0
  rotate_left
  · have e : mgE s t = 25 := by rw [mgE, if_pos eV, if_neg h3]
    rw [mgS, e, if_neg (by decide)]
    refine merge_shape s a t b w hs ht h1 h2 ?_
    by_cases c : s.st = t.st
    · exact .inr ⟨c, fun x => h3 ⟨c, x⟩⟩
    · exact .inl c
  obtain ⟨fr, st, l⟩ := s
  obtain ⟨A, c⟩ := a
  obtain ⟨fr', st', l'⟩ := t
  obtain ⟨A', c'⟩ := b
  obtain ⟨h4, h5⟩ := h3
  have h4' : st = st' := h4
  subst h4'
  have h5' : (fr - fr').tmod st = 0 := h5
  by_cases h6 : 10000 < mgN ⟨fr, st, l⟩ ⟨fr', st, l'⟩
  · have e : mgE ⟨fr, st, l⟩ ⟨fr', st, l'⟩ = 4 := by rw [mgE, if_pos eV, if_pos ⟨rfl, h5⟩, if_pos h6]
    rw [mgS, e, if_neg (by decide)]
    by_cases c1 : fr' < fr
    · by_cases c2 : enS ⟨fr, st, l⟩ < enS ⟨fr', st, l'⟩
      · exact merge_lbf fr fr' st l l' A A' c c' w hs ht h1 h2 h5' c1 _ _ rfl rfl c2 h6
      · exact merge_laf fr fr' st l l' A A' c c' w hs ht h1 h2 h5' c1 _ _ rfl rfl c2 h6
    · by_cases c2 : enS ⟨fr, st, l⟩ < enS ⟨fr', st, l'⟩
      · exact merge_rbf fr fr' st l l' A A' c c' w hs ht h1 h2 h5' c1 _ _ rfl rfl c2 h6
      · exact merge_raf fr fr' st l l' A A' c c' w hs ht h1 h2 h5' c1 _ _ rfl rfl c2 h6
  · have e : mgE ⟨fr, st, l⟩ ⟨fr', st, l'⟩ = 0 := by rw [mgE, if_pos eV, if_pos ⟨rfl, h5⟩, if_neg h6]
    rw [mgS, e, if_pos rfl]
    by_cases c1 : fr' < fr
    · by_cases c2 : enS ⟨fr, st, l⟩ < enS ⟨fr', st, l'⟩
      · exact merge_lb fr fr' st l l' A A' c c' w hs ht h1 h2 h5' c1 _ _ rfl rfl c2 (by omega)
      · exact merge_la fr fr' st l l' A A' c c' w hs ht h1 h2 h5' c1 _ _ rfl rfl c2 (by omega)
    · by_cases c2 : enS ⟨fr, st, l⟩ < enS ⟨fr', st, l'⟩
      · exact merge_rb fr fr' st l l' A A' c c' w hs ht h1 h2 h5' c1 _ _ rfl rfl c2 (by omega)
      · exact merge_ra fr fr' st l l' A A' c c' w hs ht h1 h2 h5' c1 _ _ rfl rfl c2 (by omega)
end Go.Proofs.Ytkbocphpnmpaeaa
