/- The program's find and mix: the place of a number in a list, and the value there; nothing that was there is turned. -/
import Derived.Test.YtnhimgabcljahaaGreatDoorItFn
import Derived.BigRegion
import Derived.Deep.RegionHeld3
namespace Go.Proofs.YtnhimgabcljahaaGreatDoor
open Go.RowKit

abbrev Pl.pv (p : Pl) : Value := .agg #[.int .i64 (p.lo : Int), .int .i64 (p.hi : Int), .int .i64 p.rest, .int .i64 p.whole]
def Pl.zero : Pl := ⟨0, 0, 0, 0⟩
def fPl (l : List Int) (x : Int) : Pl := if inL l x = true then plc l x else Pl.zero
theorem find_cases {l : List Int} (ha : Asc l) (hn : 1 ≤ l.length) (x : Int) (i : Nat) (hi : i = cnt l (x - 1)) :
    (hitB l x = true ∧ inL l x = true ∧ plc l x = ⟨i, i, 0, 1⟩) ∨ (hitB l x = false ∧ i = 0 ∧ inL l x = false) ∨ (hitB l x = false ∧ 0 < i ∧ i = l.length ∧ inL l x = false) ∨
    (hitB l x = false ∧ 0 < i ∧ i < l.length ∧ inL l x = true ∧ plc l x = ⟨i - 1, i, x - l.getD (i - 1) 0, l.getD i 0 - l.getD (i - 1) 0⟩ ∧ l.getD (i - 1) 0 < x ∧ x < l.getD i 0) := by
  have c1 := cnt_le l (x - 1)
  have lo : ∀ j, j < i → l.getD j 0 < x := fun j hj => by have := cnt_lt l (x - 1) j (by omega); omega
  have hi2 : i < l.length → x ≤ l.getD i 0 := fun h => by have := cnt_ge l (x - 1) (by omega); rw [← hi] at this; omega
  by_cases h : hitB l x = true
  · left
    have h' := h
    simp only [hitB, decide_eq_true_eq] at h'
    rw [← hi] at h'
    have hp : IsPl l x (⟨i, i, 0, 1⟩ : Pl) := ⟨h'.1, Or.inl ⟨Eq.refl i, Eq.refl 0, Eq.refl 1, h'.2⟩⟩
    refine ⟨h, inL_iff.2 ⟨?_, ?_⟩, (plc_eq ha hn hp).symm⟩
    · rw [← h'.2]; exact ha.le (Nat.zero_le _) h'.1
    · rw [← h'.2]; exact ha.le (by omega) (by omega)
  · right
    have h0 : hitB l x = false := by simpa using h
    have h1 : ¬ (i < l.length ∧ l.getD i 0 = x) := by rw [hi]; simpa [hitB] using h
    by_cases e0 : i = 0
    · left
      refine ⟨h0, e0, ?_⟩
      cases e : inL l x
      · rfl
      · have := (inL_iff.1 e).1
        have k := hi2 (by omega)
        rw [e0] at k h1
        exact absurd ⟨by omega, by omega⟩ h1
    · right
      by_cases e1 : i = l.length
      · left
        refine ⟨h0, by omega, e1, ?_⟩
        cases e : inL l x
        · rfl
        · have := (inL_iff.1 e).2
          have := lo (l.length - 1) (by omega)
          omega
      · right
        have k := hi2 (by omega)
        have k2 := lo (i - 1) (by omega)
        have k3 : x < l.getD i 0 := by
          rcases Int.lt_or_eq_of_le k with q | q
          · exact q
          · exact absurd ⟨by omega, q.symm⟩ h1
        have hp : IsPl l x (⟨i - 1, i, x - l.getD (i - 1) 0, l.getD i 0 - l.getD (i - 1) 0⟩ : Pl) := ⟨by simp only; omega, Or.inr ⟨by simp only; omega, k2, k3, Eq.refl _, Eq.refl _⟩⟩
        refine ⟨h0, by omega, by omega, inL_iff.2 ⟨?_, ?_⟩, (plc_eq ha hn hp).symm, k2, k3⟩
        · have := ha.le (i := 0) (j := i - 1) (Nat.zero_le _) (by omega); omega
        · have := ha.le (i := i) (j := l.length - 1) (by omega) (by omega); omega
def SmallL (l : List Int) : Prop := ∀ i, i < l.length → 1 ≤ l.getD i 0 ∧ l.getD i 0 ≤ 2592000
def FindPost (l : List Int) (x : Int) (w : World) (e : Ending) (w' : World) : Prop := e = .returned (.tuple #[(fPl l x).pv, .bool (inL l x)]) ∧ Below w.heap.size w w'
theorem FindPost.mk {l : List Int} {x : Int} {w w' : World} {p : Pl} {b : Bool} (h1 : inL l x = b) (h2 : fPl l x = p) (hb : Below w.heap.size w w') : FindPost l x w (.returned (.tuple #[p.pv, .bool b])) w' := by subst h1 h2; exact ⟨rfl, hb⟩
theorem fPl_no {l : List Int} {x : Int} (h : inL l x = false) : fPl l x = Pl.zero := by unfold fPl; rw [if_neg (by rw [h]; simp)]
theorem fPl_yes {l : List Int} {x : Int} {p : Pl} (h : inL l x = true) (k : plc l x = p) : fPl l x = p := by unfold fPl; rw [if_pos h, k]
set_option maxRecDepth 100000 in
set_option maxHeartbeats 2000000 in
theorem find_any (l : List Int) (A : Option Addr) (cap : Nat) (x : Int) (w : World) (hl : IntSl w A l) (ha : Asc l) (hn : 1 ≤ l.length) (hn' : l.length ≤ 1000) (hs : SmallL l) :
    Calls Tryz.prog 44 #[.slice A l.length cap, .int .i64 x] w (FindPost l x w) := by
  have HL := hide hl
  obtain ⟨i, hi⟩ : ∃ i, i = cnt l (x - 1) := ⟨_, rfl⟩
  have S := hide (fun W (hW : IntSl W A l) => search_any l A cap x W hW ha hn')
  have hc := find_cases ha hn x i hi
  have HI := hide hi
  have hbd : i ≤ l.length := by rw [hi]; exact cnt_le _ _
  have HSM := hide hs
  have X := (Own.start w).alloc #[.int .i64 0, .int .i64 0, .int .i64 0, .int .i64 0] 85
  clear hi hl hs ha
  rcases hc with ⟨t1, t2, t3⟩ | ⟨t1, t2, t3⟩ | ⟨t1, t2, t3, t4⟩ | ⟨t1, t2, t3, t4, t5, t6, t7⟩
  · have F := hide (fPl_yes t2 t3)
    have T2 := hide t2
    clear t2 t3
    go_enter Tryz.func44, Tryz.ntmps44
    go_wp2_with fail
    refine (S.out _ (HL.out.below X.1)).mono ?_
    rintro e w' ⟨rfl, rfl⟩
    rw [t1, ← HI.out]
    go_wp2
    exact bodyPost_ret (v := .tuple #[(⟨i, i, 0, 1⟩ : Pl).pv, .bool true]) (by simp [results, Tryz.results44, go_sem]) rfl (FindPost.mk T2.out F.out (by go_grown))
  · have F := hide (fPl_no t3)
    have T3 := hide t3
    subst t2
    clear t3
    go_enter Tryz.func44, Tryz.ntmps44
    go_wp2_with fail
    refine (S.out _ (HL.out.below X.1)).mono ?_
    rintro e w' ⟨rfl, rfl⟩
    rw [t1, ← HI.out]
    go_wp2
    exact bodyPost_ret (v := .tuple #[Pl.zero.pv, .bool false]) (by simp [results, Tryz.results44, go_sem, Pl.zero]) rfl (FindPost.mk T3.out F.out (by go_grown))
  · have F := hide (fPl_no t4)
    have T3 := hide t4
    subst t3
    have q : ((l.length : Int) == 0) = false := beq_eq_false_iff_ne.2 (by omega)
    clear t4
    go_enter Tryz.func44, Tryz.ntmps44
    go_wp2_with fail
    refine (S.out _ (HL.out.below X.1)).mono ?_
    rintro e w' ⟨rfl, rfl⟩
    rw [t1, ← HI.out]
    go_wp2
    exact bodyPost_ret (v := .tuple #[Pl.zero.pv, .bool false]) (by simp [results, Tryz.results44, go_sem, Pl.zero]) rfl (FindPost.mk T3.out F.out (by go_grown))
  · obtain ⟨j, rfl⟩ : ∃ j, i = j + 1 := ⟨i - 1, by omega⟩
    simp only [Nat.add_one_sub_one] at t5 t6
    have F := hide (fPl_yes t4 t5)
    have T4 := hide t4
    have q : ((j : Int) + 1 == 0) = false := beq_eq_false_iff_ne.2 (by omega)
    have q2 : ((j : Int) + 1 == (l.length : Int)) = false := beq_eq_false_iff_ne.2 (by omega)
    obtain ⟨b, off, rfl, hbl, hat⟩ := (HL.out.below X.1).at_ (by omega)
    have c0 := hat j (by omega)
    have c1 := hat (j + 1) (by omega)
    have b0 := HSM.out j (by omega)
    have b1 := HSM.out (j + 1) (by omega)
    have n1 : ¬ w.heap.size = b := fun e => by have := (HL.out).at_ (by omega); obtain ⟨b', o', e', h', _⟩ := this; cases e'; omega
    clear hat t4 t5
    generalize l.getD j 0 = y at *
    generalize l.getD (j + 1) 0 = z at *
    have e1 : IntKind.i64.wrap (x - y) = x - y := IntWalk.i64_in _ (by omega)
    have e2 : IntKind.i64.wrap (z - y) = z - y := IntWalk.i64_in _ (by omega)
    have HX := hide X
    have FF := hide (fun W (hb : Below w.heap.size w W) => FindPost.mk T4.out F.out hb)
    go_enter Tryz.func44, Tryz.ntmps44
    go_wp2_with fail
    refine (S.out _ (HL.out.below HX.out.1)).mono ?_
    rintro e w' ⟨rfl, rfl⟩
    rw [t1, ← HI.out]
    go_wp2
    go_region
    go_wp2
    exact bodyPost_ret (v := .tuple #[(⟨j, j + 1, x - y, z - y⟩ : Pl).pv, .bool true]) (by simp [results, Tryz.results44, go_sem]) rfl (FF.out _ (by go_grown))
def MixB (p : Pl) (B : Int) : Prop := 0 ≤ p.rest ∧ p.rest ≤ p.whole ∧ 0 ≤ B ∧ p.whole * B ≤ 4611686018427387904 ∧ p.whole ≤ 2592000
set_option maxHeartbeats 1000000 in
theorem mix_any (p : Pl) (a b B : Int) (w : World) (hp : MixB p B) (ha : 0 ≤ a) (ha' : a ≤ B) (hb : 0 ≤ b) (hb' : b ≤ B) :
    Calls Tryz.prog 45 #[p.pv, .int .i64 a, .int .i64 b] w fun e w' => e = .returned (.int .i64 ((p.whole - p.rest) * a + p.rest * b)) ∧ Below w.heap.size w w' := by
  obtain ⟨h0, h1, hB, h2, h3⟩ := hp
  have m1 : 0 ≤ (p.whole - p.rest) * a := Int.mul_nonneg (by omega) ha
  have m2 : 0 ≤ p.rest * b := Int.mul_nonneg h0 hb
  have m3 : (p.whole - p.rest) * a ≤ (p.whole - p.rest) * B := Int.mul_le_mul_of_nonneg_left ha' (by omega)
  have m4 : p.rest * b ≤ p.rest * B := Int.mul_le_mul_of_nonneg_left hb' h0
  have m5 : (p.whole - p.rest) * B + p.rest * B = p.whole * B := by grind
  have m6 : 0 ≤ p.rest * B := Int.mul_nonneg h0 hB
  have m7 : 0 ≤ (p.whole - p.rest) * B := Int.mul_nonneg (by omega) hB
  have z0 := IntWalk.wrap64_in (p.whole - p.rest) (by omega)
  have z1 := IntWalk.wrap64_in ((p.whole - p.rest) * a) (by omega)
  have z2 := IntWalk.wrap64_in (p.rest * b) (by omega)
  have z3 := IntWalk.wrap64_in ((p.whole - p.rest) * a + p.rest * b) (by omega)
  clear m1 m2 m3 m4 m5 m6 m7
  go_enter Tryz.func45, Tryz.ntmps45
  go_wp2
  go_ret
  exact ⟨by first | rfl | simp [z1, z2, z3], by go_grown⟩
end Go.Proofs.YtnhimgabcljahaaGreatDoor
