/- The law's few of records: whether each has at most 200 steps; nothing that was there is turned. -/
import Derived.Test.YtkbocphpnmpaeaaGgFn
namespace Go.Proofs.Ytkbocphpnmpaeaa
open Go.RowKit

/-- a slice of records in memory -/
def SerL (w : World) (b off : Nat) (L : List (Ser × SerA)) : Prop := b < w.heap.size ∧ ∀ i (h : i < L.length), w.cell? ⟨b, off + i * 3, none⟩ = some (.int .i64 L[i].1.fr) ∧ w.cell? ⟨b, off + i * 3 + 1, none⟩ = some (.int .i64 L[i].1.st) ∧ w.cell? ⟨b, off + i * 3 + 2, none⟩ = some (.slice L[i].2.A L[i].1.ds.length L[i].2.c)
theorem SerL.below {w w' : World} {b off : Nat} {L : List (Ser × SerA)} (h : SerL w b off L) (hb : Below w.heap.size w w') : SerL w' b off L :=
  ⟨Nat.lt_of_lt_of_le h.1 hb.size, fun i hi => by
    obtain ⟨h1, h2, h3⟩ := h.2 i hi
    exact ⟨(hb.cell (p := ⟨b, off + i * 3, none⟩) h.1).trans h1, (hb.cell (p := ⟨b, off + i * 3 + 1, none⟩) h.1).trans h2, (hb.cell (p := ⟨b, off + i * 3 + 2, none⟩) h.1).trans h3⟩⟩
/-- the numbers of steps -/
def lens (L : List (Ser × SerA)) : List Int := L.map fun x => (x.1.ds.length : Int)
def longP (d : Int) : Bool := decide (200 < d)
theorem lens_length (L : List (Ser × SerA)) : (lens L).length = L.length := by simp [lens]
theorem lens_at (L : List (Ser × SerA)) {i : Nat} (h : i < L.length) : (lens L)[i]'(by rw [lens_length]; exact h) = (L[i].1.ds.length : Int) := by simp [lens]
set_option maxHeartbeats 1000000 in
theorem few1_any (s : Ser) (a : SerA) (w : World) : Calls Try.prog 33 #[s.val a] w (BPost (longP (s.ds.length : Int)) w) := by
  obtain ⟨fr, st, l⟩ := s
  show Calls Try.prog 33 #[.agg #[.int .i64 fr, .int .i64 st, .slice a.A l.length a.c]] w (BPost (longP (l.length : Int)) w)
  generalize l.length = n
  have X := (Own.start w).alloc #[.int .i64 fr, .int .i64 st, .slice a.A n a.c] 24
  have hr := X.r1
  have V := hide (show longP (n : Int) = decide ((200 : Int) < (n : Int)) from rfl)
  go_enter Try.func33, Try.ntmps33
  go_wp2
  go_ret
  exact BPost.mk V.out X.1
set_option maxHeartbeats 1000000 in
theorem idxS_any (L : List (Ser × SerA)) (b off cap : Nat) (w : World) (hl : SerL w b off L) (hn : L.length ≤ 10000) :
    Calls Try.prog 49 #[.slice (some ⟨b, off, none⟩) L.length cap, .func (.func 33) #[] #[]] w fun e w' => e = .returned (.int .i64 (idxP longP (lens L))) ∧ Below w.heap.size w w' := by
  have H := hide hl
  have hll := hide (lens_length L)
  clear hl
  go_enter Try.func49, Try.ntmps49
  go_wp2
  go_loopw [5, 8] (fun v5 v8 wr => ∃ k : Nat, k ≤ L.length ∧ v8 = .int .i64 k ∧ Hid (Below w.heap.size w wr ∧ ∀ i (hi : i < (lens L).length), i < k → longP (lens L)[i] = false)) (fun _ v8 _ => L.length - (intOf v8).toNat)
  case atStart => exact ⟨0, Nat.zero_le _, rfl, hide ⟨Below.refl _ _, fun _ _ h => by omega⟩⟩
  case round =>
    obtain ⟨k, hk, rfl, Y⟩ := hrel
    by_cases hlt : k < L.length
    · obtain ⟨c0, c1, c2⟩ := (H.out.below Y.out.1).2 k hlt
      have F := hide (few1_any L[k].1 L[k].2)
      have la := hide (lens_at L hlt)
      have hk2 : k < (lens L).length := by rw [hll.out]; exact hlt
      generalize L[k].1 = s at *
      generalize L[k].2 = a at *
      have g0 : (0 : Int) ≤ (k : Int) := by omega
      have g1 : (k : Int) < (L.length : Int) := by omega
      rcases Bool.eq_false_or_eq_true (longP (s.ds.length : Int)) with hs | hs
      · have YES := hide (idxP_yes hk2 (fun i hi hik => Y.out.2 i hi hik) (by rw [la.out]; exact hs))
        rw [hs] at F
        clear hs
        go_wp2_with fail
        refine (F.out _).mono ?_
        rintro e w1 ⟨rfl, hb⟩
        have B := hide (below_via Y.out.1 Y.out.1.size hb)
        clear hb
        go_wp2
        go_ret
        exact ⟨ret_int YES.out.symm, B.out⟩
      · have NX := hide (fun i (hi : i < (lens L).length) (hik : i < k + 1) => (by
          by_cases e : i = k
          · subst e; rw [la.out]; exact hs
          · exact Y.out.2 i hi (by omega) : longP (lens L)[i] = false))
        rw [hs] at F
        clear hs
        go_wp2_with fail
        refine (F.out _).mono ?_
        rintro e w1 ⟨rfl, hb⟩
        have B := hide (below_via Y.out.1 Y.out.1.size hb)
        clear hb
        go_wp2
        go_roundw
        case rel => exact ⟨k + 1, by omega, by go_num, hide ⟨B.out, NX.out⟩⟩
        case measure => simp [intOf]; omega
    · have NO := hide (idxP_no (p := longP) (l := lens L) (fun i hi => Y.out.2 i hi (by have := hll.out; omega)))
      go_wp2
      go_ret
      exact ⟨ret_int NO.out.symm, Y.out.1⟩
set_option maxHeartbeats 1000000 in
theorem few_any (L : List (Ser × SerA)) (b off cap : Nat) (w : World) (hl : SerL w b off L) (hn : L.length ≤ 10000) :
    Calls Try.prog 9 #[.slice (some ⟨b, off, none⟩) L.length cap] w (BPost (!(lens L).any longP) w) := by
  have I := hide (fun W (h : SerL W b off L) => idxS_any L b off cap W h hn)
  have A := hide (any_idx longP (lens L))
  have HL := hide hl
  clear hl
  have C : ∀ W, SerL W b off L → Calls Try.prog 32 #[.slice (some ⟨b, off, none⟩) L.length cap, .func (.func 33) #[] #[]] W (BPost ((lens L).any longP) W) := fun W hW => by
    go_enter Try.func32, Try.ntmps32
    go_wp2_with fail
    refine (I.out _ hW).mono ?_
    rintro e w1 ⟨rfl, hb⟩
    have B := hide hb
    clear hb
    go_wp2
    go_ret
    exact BPost.mk A.out B.out
  have CH := hide C
  clear C
  go_enter Try.func9, Try.ntmps9
  go_wp2_with fail
  refine (CH.out _ HL.out).mono ?_
  rintro e w1 ⟨rfl, hb⟩
  have B := hide hb
  clear hb
  go_wp2
  go_ret
  exact ⟨rfl, B.out⟩
end Go.Proofs.Ytkbocphpnmpaeaa
