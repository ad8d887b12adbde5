/- The reference's Sum and Missing of depths, and its greatest sum: what each returns; they draw at most. -/
import Derived.Test.YtkbocphpnmpaeaaGgGrP
import Derived.Test.YtkbocphpnmpaeaaGgSame
namespace Go.Proofs.Ytkbocphpnmpaeaa
open Go.RowKit

/-- depths of a valid record -/
def DepB (l : List Int) : Prop := l.length ≤ 10000 ∧ ∀ i, i < l.length → -1 ≤ l.getD i 0 ∧ l.getD i 0 ≤ 4194304
def QPost (v : Int) (w : World) (e : Ending) (w' : World) : Prop := e = .returned (.int .i64 v) ∧ ∃ d, w' = w.drewN d
theorem QPost.mk {v v' : Int} {w w' : World} (h : v = v') (hd : ∃ d, w' = w.drewN d) : QPost v w (.returned (.int .i64 v')) w' := by subst h; exact ⟨rfl, hd⟩
set_option maxRecDepth 100000 in
set_option maxHeartbeats 2000000 in
theorem rsum_any (l : List Int) (A : Option Addr) (c : Nat) (w : World) (hl : IntSl w A l) (hv : DepB l) : Calls Try.prog 20 #[.slice A l.length c] w (QPost (ps l l.length) w) := by
  have le : l.length ≤ 10000 := hv.1
  have HV := hide hv.2
  have PB := hide (fun i hi => ps_le (fun i hi => (hv.2 i hi).2) i hi)
  have HL := hide hl
  clear hl hv
  go_enter Try.func20, Try.ntmps20
  go_wp2
  go_loopw [3, 4] (fun v3 v4 wr => ∃ i : Nat, i ≤ l.length ∧ v4 = .int .i64 (i : Int) ∧ v3 = .int .i64 (ps l i) ∧ ∃ d, wr = w.drewN d) (fun _ v4 _ => l.length - (intOf v4).toNat)
  case atStart => exact ⟨0, by omega, rfl, rfl, 0, by simp [World.drewN_zero]⟩
  case round =>
    obtain ⟨i, hi, rfl, rfl, n, rfl⟩ := hrel
    by_cases hlt : i < l.length
    · obtain ⟨b, off, rfl, hbl, hat⟩ := HL.out.atg (show 0 < l.length by omega)
      have c0 := hat i hlt
      obtain ⟨x, hx⟩ : ∃ x, x = max (l.getD i 0) 0 := ⟨_, rfl⟩
      have E1 : Hid (ps l (i + 1) = ps l i + x) := hide (by rw [hx]; rfl)
      have p0 := PB.out i (by show i ≤ l.length; omega)
      have p1 := ps_nonneg l i
      have v0 := HV.out i hlt
      have v0' : l.getD i 0 ≤ 4194304 := v0.2
      have x0 : 0 ≤ x ∧ x ≤ 4194304 := by rw [hx]; omega
      have x1 : (if 0 < l.getD i 0 then l.getD i 0 else 0) = x := by rw [hx]; split <;> omega
      have s3 := IntWalk.wrap64_in (ps l i + x) (by omega)
      have s1 := IntWalk.i64_in (ps l i + x) (by omega)
      have g0 : (0 : Int) ≤ (i : Int) := by omega
      have g1 : (i : Int) < (l.length : Int) := by omega
      clear hat hx p0 p1 x0 v0 v0'
      generalize l.getD i 0 = d at *
      generalize ps l i = P at *
      go_wp2
      all_goals
        go_roundw
        case rel => exact ⟨i + 1, by omega, by go_num, by rw [E1.out], n, rfl⟩
        case measure => simp [intOf]; omega
    · have e : i = l.length := by omega
      subst e
      go_wp2
      go_ret
      exact QPost.mk rfl ⟨n, rfl⟩
set_option maxRecDepth 100000 in
set_option maxHeartbeats 2000000 in
theorem rmissing_any (l : List Int) (A : Option Addr) (c : Nat) (w : World) (hl : IntSl w A l) (hv : DepB l) : Calls Try.prog 21 #[.slice A l.length c] w (QPost (ms l l.length) w) := by
  have le : l.length ≤ 10000 := hv.1
  have HV := hide hv.2
  have HL := hide hl
  clear hl hv
  go_enter Try.func21, Try.ntmps21
  go_wp2
  go_loopw [3, 4] (fun v3 v4 wr => ∃ i : Nat, i ≤ l.length ∧ v4 = .int .i64 (i : Int) ∧ v3 = .int .i64 (ms l i) ∧ ∃ d, wr = w.drewN d) (fun _ v4 _ => l.length - (intOf v4).toNat)
  case atStart => exact ⟨0, by omega, rfl, rfl, 0, by simp [World.drewN_zero]⟩
  case round =>
    obtain ⟨i, hi, rfl, rfl, n, rfl⟩ := hrel
    by_cases hlt : i < l.length
    · obtain ⟨b, off, rfl, hbl, hat⟩ := HL.out.atg (show 0 < l.length by omega)
      have c0 := hat i hlt
      have M1 : Hid (ms l (i + 1) = ms l i + if l.getD i 0 = -1 then 1 else 0) := hide rfl
      have mb := ms_bd l i
      have v0 := HV.out i hlt
      have s2 := IntWalk.i64_in (ms l i + 1) (by omega)
      have g0 : (0 : Int) ≤ (i : Int) := by omega
      have g1 : (i : Int) < (l.length : Int) := by omega
      clear hat mb
      generalize l.getD i 0 = d at *
      generalize ms l i = M at *
      by_cases q : d = -1
      · have q1 : decide (d < 0) = true := decide_eq_true (by omega)
        have E2 : Hid (ms l (i + 1) = M + 1) := hide (by rw [M1.out, if_pos q])
        clear q M1 v0
        go_wp2
        all_goals
          go_roundw
          case rel => exact ⟨i + 1, by omega, by go_num, by rw [E2.out], n, rfl⟩
          case measure => simp [intOf]; omega
      · have q1 : decide (d < 0) = false := decide_eq_false (by omega)
        have E2 : Hid (ms l (i + 1) = M) := hide (by rw [M1.out, if_neg q, Int.add_zero])
        clear q M1 v0
        go_wp2
        all_goals
          go_roundw
          case rel => exact ⟨i + 1, by omega, by go_num, by rw [E2.out], n, rfl⟩
          case measure => simp [intOf]; omega
    · have e : i = l.length := by omega
      subst e
      go_wp2
      go_ret
      exact QPost.mk rfl ⟨n, rfl⟩
/-- the first depths as a slice -/
theorem IntSl.win {w : World} {b off : Nat} {l : List Int} {a e : Nat} (h : IntSl w (some ⟨b, off, none⟩) l) (ha : a ≤ e) (he : e ≤ l.length) : IntSl w (some ⟨b, off + a, none⟩) (winL l a e) := by
  refine ⟨⟨by rw [winL_length ha he]; have := h.1.1; omega, fun i hi => ?_⟩, fun hpos => ?_⟩
  · rw [winL_length ha he] at hi
    have : (winL l a e)[i] = l[a + i] := by simp [winL]
    rw [this]; exact h.1.2 (a + i) (by omega)
  · rw [winL_length ha he] at hpos
    obtain ⟨b', off', e', hb, hat⟩ := h.2 (by omega)
    injection e' with e'
    injection e' with e1 e2
    subst e1 e2
    refine ⟨b, off + a, rfl, hb, fun i hi => ?_⟩
    have hi' := hi
    rw [winL_length ha he] at hi'
    have := hat (a + i) (by omega)
    rw [Nat.add_assoc, this]
    simp [winL]
theorem DepB.win {l : List Int} {a e : Nat} (h : DepB l) (ha : a ≤ e) (he : e ≤ l.length) : DepB (winL l a e) := by
  refine ⟨by rw [winL_length ha he]; have := h.1; omega, fun i hi => ?_⟩
  rw [winL_length ha he] at hi
  rw [winL_at (by omega)]
  exact h.2 _ (by omega)
set_option maxRecDepth 100000 in
set_option maxHeartbeats 2000000 in
theorem rgreatest17_any (l : List Int) (A : Option Addr) (c k : Nat) (w : World) (hl : IntSl w A l) (hv : DepB l) (hc : l.length ≤ c) (h1 : 1 ≤ k) (h2 : k ≤ l.length) :
    Calls Try.prog 26 #[.slice A l.length c, .int .i64 (k : Int)] w fun e w' => e = .returned (.tuple #[.int .i64 (gm l k l.length), .int .i64 (gf l k l.length : Nat)]) ∧ Below w.heap.size w w' := by
  have le : l.length ≤ 10000 := hv.1
  obtain ⟨b, off, rfl, hbl, _⟩ := hl.atg (by omega)
  have HL := hide hl
  have HV := hide hv
  have Z1 := hide (gm_lt l k (k - 1) (by omega))
  have Z2 : Hid (gf l k (k - 1) = 0) := hide (by
    have : ∀ i, i < k → gf l k i = 0 := fun i => by
      induction i with
      | zero => intro _; rfl
      | succ i ih =>
        intro hi
        show (if k ≤ i + 1 ∧ gm l k i < sk l k (i + 1) then i + 1 - k else gf l k i) = 0
        rw [if_neg (by omega)]
        exact ih (by omega)
    exact this _ (by omega))
  clear hl hv
  go_enter Try.func26, Try.ntmps26
  go_wp2
  go_loopw [6, 7, 8, 9] (fun v6 v7 v8 v9 wr => ∃ i : Nat, i + k ≤ l.length + 1 ∧ v8 = .int .i64 (i : Int) ∧ v6 = .int .i64 (gm l k (i + k - 1)) ∧ v7 = .int .i64 (gf l k (i + k - 1) : Nat) ∧ Hid (∃ d, wr = w.drewN d)) (fun _ _ v8 _ _ => l.length + 1 - (intOf v8).toNat)
  case atStart => exact ⟨0, by omega, rfl, by rw [Nat.zero_add, Z1.out], by rw [Nat.zero_add, Z2.out]; rfl, hide ⟨0, by simp [World.drewN_zero]⟩⟩
  case round =>
    obtain ⟨i, hi, rfl, rfl, rfl, Y⟩ := hrel
    have s1 : IntKind.i64.wrap ((i : Int) + (k : Int)) = ((i + k : Nat) : Int) := (IntWalk.i64_in _ (by omega)).trans (by omega)
    by_cases hlt : i + k ≤ l.length
    · have e1 : i + 1 + k - 1 = (i + k - 1) + 1 := by omega
      have e2 : (i + k - 1) + 1 - k = i := by omega
      have SK : sk l k ((i + k - 1) + 1) = ps l (i + k) - ps l i := by unfold sk; rw [e2, show i + k - 1 + 1 = i + k by omega]
      have EM : Hid (gm l k (i + 1 + k - 1) = if k ≤ i + k - 1 + 1 ∧ gm l k (i + k - 1) < sk l k (i + k - 1 + 1) then sk l k (i + k - 1 + 1) else gm l k (i + k - 1)) := hide (by rw [e1]; rfl)
      have EF : Hid (gf l k (i + 1 + k - 1) = if k ≤ i + k - 1 + 1 ∧ gm l k (i + k - 1) < sk l k (i + k - 1 + 1) then i + k - 1 + 1 - k else gf l k (i + k - 1)) := hide (by rw [e1]; rfl)
      rw [e2] at EF
      rw [SK] at EM EF
      have kk : k ≤ i + k - 1 + 1 := by omega
      have WL := winL_length (l := l) (a := i) (b := i + k) (by omega) hlt
      rw [show i + k - i = k by omega] at WL
      have PW := ps_win (l := l) (a := i) (b := i + k) k (by omega)
      have RS := fun W (h : IntSl W (some ⟨b, off + i, none⟩) (winL l i (i + k))) => rsum_any (winL l i (i + k)) (some ⟨b, off + i, none⟩) (c - i) W h (HV.out.win (by omega) hlt)
      rw [WL, PW] at RS
      have RSH := hide RS
      obtain ⟨d, rfl⟩ := Y.out
      have WI := hide ((HL.out.below (below_drewN (Below.refl w.heap.size w) d)).win (a := i) (e := i + k) (by omega) hlt)
      have q1 : ¬ c = i := by omega
      have q2 : ¬ (c : Int) = (i : Int) := by omega
      have t1 : ((i : Int)).toNat = i := by omega
      have t2 : (((i + k : Nat) : Int)).toNat = i + k := by omega
      have t3 : i + k - i = k := by omega
      have q3 : ((i + k : Nat) : Int) ≤ (l.length : Int) := by omega
      have q4 : ((i + k : Nat) : Int) ≤ (c : Int) := by omega
      have q5 : (i : Int) ≤ ((i + k : Nat) : Int) := by omega
      have q6 : (0 : Int) ≤ (i : Int) := by omega
      have q7 : decide (((i + k : Nat) : Int) ≤ (l.length : Int)) = true := decide_eq_true q3
      have q8 : (0 : Int) ≤ ((i + k : Nat) : Int) := by omega
      have hi2 : i < l.length := by omega
      clear RS PW WL SK e1 e2 Y
      generalize hE : i + k = E at *
      generalize hg : gm l k (E - 1) = G at *
      generalize hf : gf l k (E - 1) = F at *
      generalize hT : ps l E - ps l i = T at *
      have HH := hide (And.intro hE (And.intro hg (And.intro hf hT)))
      clear hE hg hf hT
      go_wp2_with fail
      refine (RSH.out _ WI.out).mono ?_
      rintro e w3 ⟨rfl, d3, rfl⟩
      by_cases m : G < T
      · have E1 := hide (EM.out.trans (if_pos ⟨kk, m⟩))
        have E2 := hide (EF.out.trans (if_pos ⟨kk, m⟩))
        clear EM EF
        go_wp2
        go_roundw
        case rel => exact ⟨i + 1, by omega, by go_num, by rw [E1.out], by rw [E2.out], hide ⟨d + d3, by first | rfl | (rw [World.drewN_add]) | simp⟩⟩
        case measure => simp [intOf]; omega
      · have E1 := hide (EM.out.trans (if_neg (fun h => m h.2)))
        have E2 := hide (EF.out.trans (if_neg (fun h => m h.2)))
        clear EM EF
        go_wp2
        go_roundw
        case rel => exact ⟨i + 1, by omega, by go_num, by rw [E1.out], by rw [E2.out], hide ⟨d + d3, by first | rfl | (rw [World.drewN_add]) | simp⟩⟩
        case measure => simp [intOf]; omega
    · have q3 : ¬ ((i + k : Nat) : Int) ≤ (l.length : Int) := by omega
      have e1 : i + k - 1 = l.length := by omega
      obtain ⟨d, rfl⟩ := Y.out
      rw [e1]
      clear hlt hi
      go_wp2
      go_ret2
      exact ⟨rfl, below_drewN (Below.refl _ _) d⟩
end Go.Proofs.Ytkbocphpnmpaeaa
