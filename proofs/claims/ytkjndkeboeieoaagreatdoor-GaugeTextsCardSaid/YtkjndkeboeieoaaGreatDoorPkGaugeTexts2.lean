/- Parts of one proof, joined: The reference's ValidDate and At; nothing that was there is turned. (Printed by gen_rkp.py.). How the reference reads an instant: the same number and error; plain facts. (Printed by gen_rkr.py.). Parts of a string as lists. (Printed by gen_rkr.py.). The reference's reading of an instant: what Parse returns; nothing that was there is turned. (Printed by gen_rkr.py.). The reference's Parse of a record: each line's part in what is read; words, lines and numbers of a list. (Printed by gen_ggrp.py.). -/
import Derived.Test.YtkjndkeboeieoaaGreatDoorPkGaugeTexts1
import Derived.Test.YtkjndkeboeieoaaGreatDoorPkGaugeBack7
import Derived.Test.YtkjndkeboeieoaaGreatDoorPkGaugeBack8
import Derived.Test.YtkjndkeboeieoaaGreatDoorPkGaugeBack1
import Derived.Test.YtkjndkeboeieoaaGreatDoorPkGaugeBack3
import Derived.Test.YtkjndkeboeieoaaGreatDoorPkGaugeBack4
namespace Go.Proofs.YtkjndkeboeieoaaGreatDoor
open Go Go.RowKit

/-- a date that there is, of integers -/
def vdI (y m d : Int) : Prop := (1 ≤ y ∧ y ≤ 9999) ∧ (1 ≤ m ∧ m ≤ 12) ∧ 1 ≤ d ∧ d ≤ (mdN y.toNat m.toNat : Int)
instance (y m d : Int) : Decidable (vdI y m d) := by unfold vdI; infer_instance
theorem vdI_nat (y m d : Nat) : vdI y m d ↔ VD y m d := by
  unfold vdI VD
  simp only [Int.toNat_natCast]
  omega
theorem vdI_cases (y m d : Int) : (decide (vdI y m d) = false ∧ decide ((1 : Int) ≤ y) = false) ∨ (decide (vdI y m d) = false ∧ decide ((1 : Int) ≤ y) = true ∧ decide (y ≤ 9999) = false) ∨ (decide (vdI y m d) = false ∧ decide ((1 : Int) ≤ y) = true ∧ decide (y ≤ 9999) = true ∧ decide ((1 : Int) ≤ m) = false) ∨ (decide (vdI y m d) = false ∧ decide ((1 : Int) ≤ y) = true ∧ decide (y ≤ 9999) = true ∧ decide ((1 : Int) ≤ m) = true ∧ decide (m ≤ 12) = false) ∨ (decide (vdI y m d) = false ∧ decide ((1 : Int) ≤ y) = true ∧ decide (y ≤ 9999) = true ∧ decide ((1 : Int) ≤ m) = true ∧ decide (m ≤ 12) = true ∧ decide ((1 : Int) ≤ d) = false) ∨ (decide (vdI y m d) = false ∧ decide ((1 : Int) ≤ y) = true ∧ decide (y ≤ 9999) = true ∧ decide ((1 : Int) ≤ m) = true ∧ decide (m ≤ 12) = true ∧ decide ((1 : Int) ≤ d) = true ∧ decide (d ≤ (mdN y.toNat m.toNat : Int)) = false) ∨ (decide (vdI y m d) = true ∧ decide ((1 : Int) ≤ y) = true ∧ decide (y ≤ 9999) = true ∧ decide ((1 : Int) ≤ m) = true ∧ decide (m ≤ 12) = true ∧ decide ((1 : Int) ≤ d) = true ∧ decide (d ≤ (mdN y.toNat m.toNat : Int)) = true) := by
  by_cases h0 : (1 : Int) ≤ y
  case neg => exact .inl ⟨decide_eq_false (fun h => h0 h.1.1), decide_eq_false h0⟩
  by_cases h1 : y ≤ 9999
  case neg => exact .inr (.inl ⟨decide_eq_false (fun h => h1 h.1.2), decide_eq_true h0, decide_eq_false h1⟩)
  by_cases h2 : (1 : Int) ≤ m
  case neg => exact .inr (.inr (.inl ⟨decide_eq_false (fun h => h2 h.2.1.1), decide_eq_true h0, decide_eq_true h1, decide_eq_false h2⟩))
  by_cases h3 : m ≤ 12
  case neg => exact .inr (.inr (.inr (.inl ⟨decide_eq_false (fun h => h3 h.2.1.2), decide_eq_true h0, decide_eq_true h1, decide_eq_true h2, decide_eq_false h3⟩)))
  by_cases h4 : (1 : Int) ≤ d
  case neg => exact .inr (.inr (.inr (.inr (.inl ⟨decide_eq_false (fun h => h4 h.2.2.1), decide_eq_true h0, decide_eq_true h1, decide_eq_true h2, decide_eq_true h3, decide_eq_false h4⟩))))
  by_cases h5 : d ≤ (mdN y.toNat m.toNat : Int)
  case neg => exact .inr (.inr (.inr (.inr (.inr (.inl ⟨decide_eq_false (fun h => h5 h.2.2.2), decide_eq_true h0, decide_eq_true h1, decide_eq_true h2, decide_eq_true h3, decide_eq_true h4, decide_eq_false h5⟩)))))
  exact .inr (.inr (.inr (.inr (.inr (.inr (⟨decide_eq_true ⟨⟨h0, h1⟩, ⟨h2, h3⟩, h4, h5⟩, decide_eq_true h0, decide_eq_true h1, decide_eq_true h2, decide_eq_true h3, decide_eq_true h4, decide_eq_true h5⟩))))))
set_option maxRecDepth 100000 in
set_option maxHeartbeats 4000000 in
theorem rvaliddate_any (y m d : Int) (w : World) : Calls Tryz.prog 65 #[.agg #[.int .i64 y, .int .i64 m, .int .i64 d]] w (BPost (decide (vdI y m d)) w) := by
  have X := (Own.start w).alloc #[.int .i64 y, .int .i64 m, .int .i64 d] 96
  have hr := X.r1
  have M : Hid (decide ((1 : Int) ≤ y) = true → decide ((1 : Int) ≤ m) = true → decide (m ≤ 12) = true → ∀ W, Calls Tryz.prog 88 #[.int .i64 y, .int .i64 m] W fun e w' => e = .returned (.int .i64 (mdN y.toNat m.toNat : Int)) ∧ Below W.heap.size W w') := hide (fun h0 h1 h2 W => by
    have h0 := of_decide_eq_true h0
    have h1 := of_decide_eq_true h1
    have h2 := of_decide_eq_true h2
    have := rdays_any y.toNat m.toNat (by omega) (by omega) W
    unfold MdPost at this
    rw [show ((y.toNat : Nat) : Int) = y by omega, show ((m.toNat : Nat) : Int) = m by omega] at this
    exact this)
  have NE : Nonempty (OwnW w [(w.heap.size, 96, #[.int .i64 y, .int .i64 m, .int .i64 d])]) := ⟨⟨_, X⟩⟩
  have C1 := fun x : OwnW w [(w.heap.size, 96, #[.int .i64 y, .int .i64 m, .int .i64 d])] => x.own.r1
  have HX := hide X
  clear X
  have key := vdI_cases y m d
  generalize decide (vdI y m d) = v at *
  generalize (mdN y.toNat m.toNat : Int) = md at *
  rcases key with ⟨V, q0⟩ | ⟨V, q0, q1⟩ | ⟨V, q0, q1, q2⟩ | ⟨V, q0, q1, q2, q3⟩ | ⟨V, q0, q1, q2, q3, q4⟩ | ⟨V, q0, q1, q2, q3, q4, q5⟩ | ⟨V, q0, q1, q2, q3, q4, q5⟩
  all_goals
    replace V := hide V
    try replace M := hide (M.out q0 q2 q3)
    go_enter Tryz.func65, Tryz.ntmps65
    go_wp2_with fail
    refine wp_region_own (w := w) (L := [(w.heap.size, 96, #[.int .i64 y, .int .i64 m, .int .i64 d])]) (by kernel_rfl) (by kernel_rfl) HX.out ?_
    repeat (go_big_quiet_step ((rename_i x; with_reducible exact own_call (M.out _))))
    refine wpQuiet_nil ?_
    rintro W ⟨⟨W, HO⟩, rfl⟩
    have HZ := hide HO.1
    clear HO HX hr C1 NE
    go_wp2
    go_ret
    exact BPost.mk V.out HZ.out
set_option maxRecDepth 100000 in
set_option maxHeartbeats 4000000 in
theorem rat5_any (y m d s : Nat) (w : World) (hv : VD y m d) (hs : s < 86400) : Calls Tryz.prog 66 #[.agg #[.int .i64 (y : Int), .int .i64 (m : Int), .int .i64 (d : Int)], .int .i64 (s : Int)] w
    (RetV (.tuple #[.int .i64 (atV2 (((dnN y m d : Int) - 730119) * 86400 + (s : Int))), .int .i64 (atE2 (((dnN y m d : Int) - 730119) * 86400 + (s : Int)))]) w) := by
  have VA := hide (fun W => rvaliddate_any y m d W)
  rw [decide_eq_true ((vdI_nat y m d).2 hv)] at VA
  have N := hide (fun W => rnumber5_any y m d W hv)
  have yr := dn_year hv
  have yb := bf_lt (show y + 1 ≤ 10000 by have := hv.1; omega)
  have I := hide (fun t W => rinstant_any t W)
  have X := (Own.start w).alloc #[.int .i64 (y : Int), .int .i64 (m : Int), .int .i64 (d : Int)] 96
  have hr := X.r1
  obtain ⟨n, hn⟩ : ∃ n, n = (dnN y m d : Int) - 730119 := ⟨_, rfl⟩
  rw [← hn] at N ⊢
  have nb : -730119 ≤ n ∧ n ≤ 3000000 := by omega
  have s1 : IntKind.i64.wrap (n * 86400) = n * 86400 := IntWalk.i64_in _ (by omega)
  obtain ⟨t, ht⟩ : ∃ t, t = n * 86400 + (s : Int) := ⟨_, rfl⟩
  have s2 : IntKind.i64.wrap (n * 86400 + (s : Int)) = t := (IntWalk.i64_in _ (by omega)).trans ht.symm
  rw [← ht]
  have q1 : decide ((s : Int) < 0) = false := decide_eq_false (by omega)
  have q2 : decide ((86400 : Int) ≤ (s : Int)) = false := decide_eq_false (by omega)
  clear hv yr yb hn ht
  rcases Bool.eq_false_or_eq_true (insB t) with hi | hi
  all_goals
    first | have E := hide (at_yes hi) | have E := hide (at_no hi)
    replace I := hide (I.out t)
    rw [hi] at I
    clear hi
    go_enter Tryz.func66, Tryz.ntmps66
    go_wp2_with fail
    refine (VA.out _).mono ?_
    rintro e w1 ⟨rfl, hb⟩
    replace X := X.to hb
    clear hb hr
    have hr := X.r1
    go_wp2_with fail
    refine (N.out _).mono ?_
    rintro e w1 ⟨rfl, hb⟩
    replace X := X.to hb
    clear hb hr
    go_wp2_with fail
    refine (I.out _).mono ?_
    rintro e w2 ⟨rfl, rfl⟩
    go_wp2
    go_ret2
    exact ⟨by rw [E.out.1, E.out.2]; rfl, X.1⟩
end Go.Proofs.YtkjndkeboeieoaaGreatDoor

namespace Go.Proofs.YtkjndkeboeieoaaGreatDoor
open Go Go.RowKit

theorem ckV_len {l : List UInt8} (h : ¬ l.length = 19) : ckV l = (0, 7) := by
  cases hc : ckF l with
  | none => exact ckV_none hc
  | some c => exact absurd (ck_len hc) h
theorem ckV_sep {l : List UInt8} (hl : l.length = 19) (h : ¬ (l.getD 4 0 = 45 ∧ l.getD 7 0 = 45 ∧ l.getD 10 0 = 32 ∧ l.getD 13 0 = 58 ∧ l.getD 16 0 = 58)) : ckV l = (0, 7) := by
  obtain ⟨a0, a1, a2, a3, p, b0, b1, q, c0, c1, r, h0, h1, u, i0, i1, v, x0, x1, rfl⟩ := list19 hl
  refine ckV_none ?_
  show (if _ ∧ _ ∧ _ ∧ _ ∧ _ ∧ _ then _ else _) = _
  rw [if_neg]
  rintro ⟨h1, h2, h3, h4, h5, _⟩
  exact h ⟨h1, h2, h3, h4, h5⟩
theorem ck_dig {l : List UInt8} (hl : l.length = 19) (hs : l.getD 4 0 = 45 ∧ l.getD 7 0 = 45 ∧ l.getD 10 0 = 32 ∧ l.getD 13 0 = 58 ∧ l.getD 16 0 = 58) :
    ((∀ c ∈ ((l.drop 0).take 4), isDg c) ∧ (∀ c ∈ ((l.drop 5).take 2), isDg c) ∧ (∀ c ∈ ((l.drop 8).take 2), isDg c) ∧ (∀ c ∈ ((l.drop 11).take 2), isDg c) ∧ (∀ c ∈ ((l.drop 14).take 2), isDg c) ∧ (∀ c ∈ ((l.drop 17).take 2), isDg c) → ckF l = some ⟨valL 0 ((l.drop 0).take 4), valL 0 ((l.drop 5).take 2), valL 0 ((l.drop 8).take 2), valL 0 ((l.drop 11).take 2), valL 0 ((l.drop 14).take 2), valL 0 ((l.drop 17).take 2)⟩) ∧
    (¬ ((∀ c ∈ ((l.drop 0).take 4), isDg c) ∧ (∀ c ∈ ((l.drop 5).take 2), isDg c) ∧ (∀ c ∈ ((l.drop 8).take 2), isDg c) ∧ (∀ c ∈ ((l.drop 11).take 2), isDg c) ∧ (∀ c ∈ ((l.drop 14).take 2), isDg c) ∧ (∀ c ∈ ((l.drop 17).take 2), isDg c)) → ckF l = none) := by
  obtain ⟨a0, a1, a2, a3, p, b0, b1, q, c0, c1, r, h0, h1, u, i0, i1, v, x0, x1, rfl⟩ := list19 hl
  obtain ⟨e1, e2, e3, e4, e5⟩ := hs
  have e1 : p = 45 := e1
  have e2 : q = 45 := e2
  have e3 : r = 32 := e3
  have e4 : u = 58 := e4
  have e5 : v = 58 := e5
  subst e1 e2 e3 e4 e5
  simp only [List.drop_succ_cons, List.drop_zero, List.take_succ_cons, List.take_zero, List.mem_cons, List.not_mem_nil, or_false, forall_eq_or_imp, forall_eq]
  constructor
  · rintro ⟨⟨z0, z1, z2, z3⟩, ⟨z4, z5⟩, ⟨z6, z7⟩, ⟨z8, z9⟩, ⟨z10, z11⟩, z12, z13⟩
    show (if _ ∧ _ ∧ _ ∧ _ ∧ _ ∧ _ then _ else _) = _
    rw [if_pos ⟨rfl, rfl, rfl, rfl, rfl, fun z hz => by
      simp only [List.mem_cons, List.not_mem_nil, or_false] at hz
      rcases hz with rfl | rfl | rfl | rfl | rfl | rfl | rfl | rfl | rfl | rfl | rfl | rfl | rfl | rfl <;> assumption⟩]
  · intro hn
    show (if _ ∧ _ ∧ _ ∧ _ ∧ _ ∧ _ then _ else _) = _
    rw [if_neg]
    rintro ⟨_, _, _, _, _, hz⟩
    simp only [List.mem_cons, List.not_mem_nil, or_false, forall_eq_or_imp, forall_eq] at hz
    obtain ⟨z0, z1, z2, z3, z4, z5, z6, z7, z8, z9, z10, z11, z12, z13⟩ := hz
    exact hn ⟨⟨z0, z1, z2, z3⟩, ⟨z4, z5⟩, ⟨z6, z7⟩, ⟨z8, z9⟩, ⟨z10, z11⟩, z12, z13⟩
theorem ckV_fin {l : List UInt8} (hl : l.length = 19) (hs : l.getD 4 0 = 45 ∧ l.getD 7 0 = 45 ∧ l.getD 10 0 = 32 ∧ l.getD 13 0 = 58 ∧ l.getD 16 0 = 58) :
    (¬ (vdI (nbI ((l.drop 0).take 4)) (nbI ((l.drop 5).take 2)) (nbI ((l.drop 8).take 2)) ∧ (0 ≤ nbI ((l.drop 11).take 2) ∧ nbI ((l.drop 11).take 2) ≤ 23) ∧ (0 ≤ nbI ((l.drop 14).take 2) ∧ nbI ((l.drop 14).take 2) ≤ 59) ∧ 0 ≤ nbI ((l.drop 17).take 2) ∧ nbI ((l.drop 17).take 2) ≤ 59) → ckV l = (0, 7)) ∧ (vdI (nbI ((l.drop 0).take 4)) (nbI ((l.drop 5).take 2)) (nbI ((l.drop 8).take 2)) ∧ (0 ≤ nbI ((l.drop 11).take 2) ∧ nbI ((l.drop 11).take 2) ≤ 23) ∧ (0 ≤ nbI ((l.drop 14).take 2) ∧ nbI ((l.drop 14).take 2) ≤ 59) ∧ 0 ≤ nbI ((l.drop 17).take 2) ∧ nbI ((l.drop 17).take 2) ≤ 59 → VD (nbI ((l.drop 0).take 4)).toNat (nbI ((l.drop 5).take 2)).toNat (nbI ((l.drop 8).take 2)).toNat ∧ ckV l = (atV2 ((((dnN (nbI ((l.drop 0).take 4)).toNat (nbI ((l.drop 5).take 2)).toNat (nbI ((l.drop 8).take 2)).toNat : Nat) : Int) - 730119) * 86400 + (((nbI ((l.drop 11).take 2)).toNat * 3600 + (nbI ((l.drop 14).take 2)).toNat * 60 + (nbI ((l.drop 17).take 2)).toNat : Nat) : Int)), atE2 ((((dnN (nbI ((l.drop 0).take 4)).toNat (nbI ((l.drop 5).take 2)).toNat (nbI ((l.drop 8).take 2)).toNat : Nat) : Int) - 730119) * 86400 + (((nbI ((l.drop 11).take 2)).toNat * 3600 + (nbI ((l.drop 14).take 2)).toNat * 60 + (nbI ((l.drop 17).take 2)).toNat : Nat) : Int)))) := by
  obtain ⟨f1, f2⟩ := ck_dig hl hs
  clear hl hs
  generalize ((l.drop 0).take 4) = p0 at *
  generalize ((l.drop 5).take 2) = p1 at *
  generalize ((l.drop 8).take 2) = p2 at *
  generalize ((l.drop 11).take 2) = p3 at *
  generalize ((l.drop 14).take 2) = p4 at *
  generalize ((l.drop 17).take 2) = p5 at *
  by_cases hd : (∀ c ∈ p0, isDg c) ∧ (∀ c ∈ p1, isDg c) ∧ (∀ c ∈ p2, isDg c) ∧ (∀ c ∈ p3, isDg c) ∧ (∀ c ∈ p4, isDg c) ∧ (∀ c ∈ p5, isDg c)
  · have e := f1 hd
    obtain ⟨g0, g1, g2, g3, g4, g5⟩ := hd
    rw [nb_good g0, nb_good g1, nb_good g2, nb_good g3, nb_good g4, nb_good g5, vdI_nat]
    simp only [Int.toNat_natCast]
    clear f1 f2 g0 g1 g2 g3 g4 g5
    generalize valL 0 p0 = v0 at *
    generalize valL 0 p1 = v1 at *
    generalize valL 0 p2 = v2 at *
    generalize valL 0 p3 = v3 at *
    generalize valL 0 p4 = v4 at *
    generalize valL 0 p5 = v5 at *
    constructor
    · intro hn
      refine ckV_bad e (fun ho => hn ?_)
      obtain ⟨o1, o2, o3, o4⟩ := ho
      have o2 : v3 ≤ 23 := o2
      have o3 : v4 ≤ 59 := o3
      have o4 : v5 ≤ 59 := o4
      exact ⟨o1, ⟨by omega, by omega⟩, ⟨by omega, by omega⟩, by omega, by omega⟩
    · intro ho
      obtain ⟨o1, o2, o3, o4⟩ := ho
      have h : Ck.ok ⟨v0, v1, v2, v3, v4, v5⟩ := ⟨o1, show v3 ≤ 23 by omega, show v4 ≤ 59 by omega, show v5 ≤ 59 by omega⟩
      have k := ckV_good e h
      have et : Ck.t ⟨v0, v1, v2, v3, v4, v5⟩ = (((dnN v0 v1 v2 : Nat) : Int) - 730119) * 86400 + ((v3 * 3600 + v4 * 60 + v5 : Nat) : Int) := rfl
      rw [et] at k
      exact ⟨o1, k⟩
  · have e := f2 hd
    refine ⟨fun _ => ckV_none e, fun ho => absurd ?_ hd⟩
    obtain ⟨o1, o2, o3, o4⟩ := ho
    obtain ⟨⟨y1, _⟩, ⟨m1, _⟩, d1, _⟩ := o1
    exact ⟨nb_nn (by omega), nb_nn (by omega), nb_nn (by omega), nb_nn o2.1, nb_nn o3.1, nb_nn o4.1⟩
end Go.Proofs.YtkjndkeboeieoaaGreatDoor

namespace Go.Proofs.YtkjndkeboeieoaaGreatDoor
open Go Go.RowKit

theorem ext_list (s : ByteArray) (a b : Nat) : (s.extract a b).data.toList = (s.data.toList.drop a).take (b - a) := by
  rw [ByteArray.data_extract]
  simp
theorem ext_size (s : ByteArray) (a b : Nat) : (s.extract a b).size = min b s.size - a := by simp
end Go.Proofs.YtkjndkeboeieoaaGreatDoor

namespace Go.Proofs.YtkjndkeboeieoaaGreatDoor
open Go Go.RowKit

set_option maxRecDepth 100000 in
set_option maxHeartbeats 4000000 in
theorem rckparse_any (s : ByteArray) (w : World) (hs : s.size ≤ maxLen) : Calls Tryz.prog 39 #[.string s] w (RetV (.tuple #[.int .i64 (ckV s.data.toList).1, .int .i64 (ckV s.data.toList).2]) w) := by
  unfold maxLen at hs
  have hl : s.data.toList.length = s.size := by simp
  by_cases h19 : s.size = 19
  case neg =>
    have E := hide (ckV_len (l := s.data.toList) (by rw [hl]; exact h19))
    have q1 : ((s.size : Int) == 19) = false := beq_eq_false_iff_ne.2 (by omega)
    have q2 : ((s.size : Int) != 19) = true := by rw [bne, q1]; rfl
    clear h19 hl
    go_enter Tryz.func39, Tryz.ntmps39
    go_wp2
    go_ret2
    exact ⟨by rw [E.out]; rfl, Below.refl _ _⟩
  have z1 : s.size ≤ 19 := by omega
  have z2 : 19 ≤ s.size := by omega
  have q1 : ((s.size : Int) == 19) = true := beq_iff_eq.2 (by omega)
  have q2 : ((s.size : Int) != 19) = false := by rw [bne, q1]; rfl
  have AT : ∀ k (h : k < s.size), s.data.toList.getD k 0 = s[k] := fun k h => by
    rw [List.getD_eq_getElem?_getD, List.getElem?_eq_getElem (by rw [hl]; exact h)]; rfl
  have l19 : s.data.toList.length = 19 := by rw [hl]; exact h19
  clear h19
  have SEP := hide (fun h => ckV_sep l19 h)
  have FIN := hide (fun h => ckV_fin l19 h)
  rw [AT 4 (by omega), AT 7 (by omega), AT 10 (by omega), AT 13 (by omega), AT 16 (by omega)] at SEP FIN
  have B4 := byteD s[4]
  have B7 := byteD s[7]
  have B10 := byteD s[10]
  have B13 := byteD s[13]
  have B16 := byteD s[16]
  have U : ∀ {x y : UInt8}, x.toNat = y.toNat → x = y := fun h => UInt8.toNat_inj.1 h
  by_cases h4 : s[4].toNat = 45
  case neg =>
    have E := hide (SEP.out (fun h => h4 (by rw [h.1]; rfl)))
    have g4 : ((s[4].toNat : Int) == 45) = false := beq_eq_false_iff_ne.2 (by omega)
    have p4 : ((s[4].toNat : Int) != 45) = true := by rw [bne, g4]; rfl
    clear SEP FIN AT U l19 h4
    go_enter Tryz.func39, Tryz.ntmps39
    go_wp2
    go_ret2
    exact ⟨by rw [E.out]; rfl, Below.refl _ _⟩
  by_cases h7 : s[7].toNat = 45
  case neg =>
    have E := hide (SEP.out (fun h => h7 (by rw [h.2.1]; rfl)))
    have g4 : ((s[4].toNat : Int) == 45) = true := beq_iff_eq.2 (by omega)
    have p4 : ((s[4].toNat : Int) != 45) = false := by rw [bne, g4]; rfl
    have g7 : ((s[7].toNat : Int) == 45) = false := beq_eq_false_iff_ne.2 (by omega)
    have p7 : ((s[7].toNat : Int) != 45) = true := by rw [bne, g7]; rfl
    clear SEP FIN AT U l19 h7
    clear h4
    go_enter Tryz.func39, Tryz.ntmps39
    go_wp2
    go_ret2
    exact ⟨by rw [E.out]; rfl, Below.refl _ _⟩
  by_cases h10 : s[10].toNat = 32
  case neg =>
    have E := hide (SEP.out (fun h => h10 (by rw [h.2.2.1]; rfl)))
    have g4 : ((s[4].toNat : Int) == 45) = true := beq_iff_eq.2 (by omega)
    have p4 : ((s[4].toNat : Int) != 45) = false := by rw [bne, g4]; rfl
    have g7 : ((s[7].toNat : Int) == 45) = true := beq_iff_eq.2 (by omega)
    have p7 : ((s[7].toNat : Int) != 45) = false := by rw [bne, g7]; rfl
    have g10 : ((s[10].toNat : Int) == 32) = false := beq_eq_false_iff_ne.2 (by omega)
    have p10 : ((s[10].toNat : Int) != 32) = true := by rw [bne, g10]; rfl
    clear SEP FIN AT U l19 h10
    clear h4
    clear h7
    go_enter Tryz.func39, Tryz.ntmps39
    go_wp2
    go_ret2
    exact ⟨by rw [E.out]; rfl, Below.refl _ _⟩
  by_cases h13 : s[13].toNat = 58
  case neg =>
    have E := hide (SEP.out (fun h => h13 (by rw [h.2.2.2.1]; rfl)))
    have g4 : ((s[4].toNat : Int) == 45) = true := beq_iff_eq.2 (by omega)
    have p4 : ((s[4].toNat : Int) != 45) = false := by rw [bne, g4]; rfl
    have g7 : ((s[7].toNat : Int) == 45) = true := beq_iff_eq.2 (by omega)
    have p7 : ((s[7].toNat : Int) != 45) = false := by rw [bne, g7]; rfl
    have g10 : ((s[10].toNat : Int) == 32) = true := beq_iff_eq.2 (by omega)
    have p10 : ((s[10].toNat : Int) != 32) = false := by rw [bne, g10]; rfl
    have g13 : ((s[13].toNat : Int) == 58) = false := beq_eq_false_iff_ne.2 (by omega)
    have p13 : ((s[13].toNat : Int) != 58) = true := by rw [bne, g13]; rfl
    clear SEP FIN AT U l19 h13
    clear h4
    clear h7
    clear h10
    go_enter Tryz.func39, Tryz.ntmps39
    go_wp2
    go_ret2
    exact ⟨by rw [E.out]; rfl, Below.refl _ _⟩
  by_cases h16 : s[16].toNat = 58
  case neg =>
    have E := hide (SEP.out (fun h => h16 (by rw [h.2.2.2.2]; rfl)))
    have g4 : ((s[4].toNat : Int) == 45) = true := beq_iff_eq.2 (by omega)
    have p4 : ((s[4].toNat : Int) != 45) = false := by rw [bne, g4]; rfl
    have g7 : ((s[7].toNat : Int) == 45) = true := beq_iff_eq.2 (by omega)
    have p7 : ((s[7].toNat : Int) != 45) = false := by rw [bne, g7]; rfl
    have g10 : ((s[10].toNat : Int) == 32) = true := beq_iff_eq.2 (by omega)
    have p10 : ((s[10].toNat : Int) != 32) = false := by rw [bne, g10]; rfl
    have g13 : ((s[13].toNat : Int) == 58) = true := beq_iff_eq.2 (by omega)
    have p13 : ((s[13].toNat : Int) != 58) = false := by rw [bne, g13]; rfl
    have g16 : ((s[16].toNat : Int) == 58) = false := beq_eq_false_iff_ne.2 (by omega)
    have p16 : ((s[16].toNat : Int) != 58) = true := by rw [bne, g16]; rfl
    clear SEP FIN AT U l19 h16
    clear h4
    clear h7
    clear h10
    clear h13
    go_enter Tryz.func39, Tryz.ntmps39
    go_wp2
    go_ret2
    exact ⟨by rw [E.out]; rfl, Below.refl _ _⟩
  have n4 := U (x := s[4]) (y := 45) h4
  have n7 := U (x := s[7]) (y := 45) h7
  have n10 := U (x := s[10]) (y := 32) h10
  have n13 := U (x := s[13]) (y := 58) h13
  have n16 := U (x := s[16]) (y := 58) h16
  obtain ⟨FB0, FG0⟩ := FIN.out ⟨n4, n7, n10, n13, n16⟩
  have FB := hide FB0
  have FG := hide FG0
  have g4 : ((s[4].toNat : Int) == 45) = true := beq_iff_eq.2 (by omega)
  have p4 : ((s[4].toNat : Int) != 45) = false := by rw [bne, g4]; rfl
  have g7 : ((s[7].toNat : Int) == 45) = true := beq_iff_eq.2 (by omega)
  have p7 : ((s[7].toNat : Int) != 45) = false := by rw [bne, g7]; rfl
  have g10 : ((s[10].toNat : Int) == 32) = true := beq_iff_eq.2 (by omega)
  have p10 : ((s[10].toNat : Int) != 32) = false := by rw [bne, g10]; rfl
  have g13 : ((s[13].toNat : Int) == 58) = true := beq_iff_eq.2 (by omega)
  have p13 : ((s[13].toNat : Int) != 58) = false := by rw [bne, g13]; rfl
  have g16 : ((s[16].toNat : Int) == 58) = true := beq_iff_eq.2 (by omega)
  have p16 : ((s[16].toNat : Int) != 58) = false := by rw [bne, g16]; rfl
  clear FB0 FG0 SEP FIN AT n4 n7 n10 n13 n16 U h4 h7 h10 h13 h16 l19
  have u4 : (4 : Int) ≤ (s.size : Int) := by omega
  have v4 : 4 ≤ s.size := by omega
  have u7 : (7 : Int) ≤ (s.size : Int) := by omega
  have v7 : 7 ≤ s.size := by omega
  have u10 : (10 : Int) ≤ (s.size : Int) := by omega
  have v10 : 10 ≤ s.size := by omega
  have u13 : (13 : Int) ≤ (s.size : Int) := by omega
  have v13 : 13 ≤ s.size := by omega
  have u16 : (16 : Int) ≤ (s.size : Int) := by omega
  have v16 : 16 ≤ s.size := by omega
  have u17 : (17 : Int) ≤ (s.size : Int) := by omega
  have v17 : 17 ≤ s.size := by omega
  have X17 : (s.data.toList.drop 17).take (s.size - 17) = (s.data.toList.drop 17).take 2 := by rw [show s.size - 17 = 2 by omega]
  have N0 : Hid (∀ W, Calls Tryz.prog 64 #[.string (s.extract 0 4)] W fun e w' => e = .returned (.int .i64 (nbI ((s.data.toList.drop 0).take 4))) ∧ W = w') := hide (fun W => by
    have e := ext_list s 0 4
    have := rnumber5s_any (s.extract 0 4) W (by rw [ext_size]; omega)
    rw [e] at this
    exact this)
  have N1 : Hid (∀ W, Calls Tryz.prog 64 #[.string (s.extract 5 7)] W fun e w' => e = .returned (.int .i64 (nbI ((s.data.toList.drop 5).take 2))) ∧ W = w') := hide (fun W => by
    have e := ext_list s 5 7
    have := rnumber5s_any (s.extract 5 7) W (by rw [ext_size]; omega)
    rw [e] at this
    exact this)
  have N2 : Hid (∀ W, Calls Tryz.prog 64 #[.string (s.extract 8 10)] W fun e w' => e = .returned (.int .i64 (nbI ((s.data.toList.drop 8).take 2))) ∧ W = w') := hide (fun W => by
    have e := ext_list s 8 10
    have := rnumber5s_any (s.extract 8 10) W (by rw [ext_size]; omega)
    rw [e] at this
    exact this)
  have N3 : Hid (∀ W, Calls Tryz.prog 64 #[.string (s.extract 11 13)] W fun e w' => e = .returned (.int .i64 (nbI ((s.data.toList.drop 11).take 2))) ∧ W = w') := hide (fun W => by
    have e := ext_list s 11 13
    have := rnumber5s_any (s.extract 11 13) W (by rw [ext_size]; omega)
    rw [e] at this
    exact this)
  have N4 : Hid (∀ W, Calls Tryz.prog 64 #[.string (s.extract 14 16)] W fun e w' => e = .returned (.int .i64 (nbI ((s.data.toList.drop 14).take 2))) ∧ W = w') := hide (fun W => by
    have e := ext_list s 14 16
    have := rnumber5s_any (s.extract 14 16) W (by rw [ext_size]; omega)
    rw [e] at this
    exact this)
  have N5 : Hid (∀ W, Calls Tryz.prog 64 #[.string (s.extract 17 s.size)] W fun e w' => e = .returned (.int .i64 (nbI ((s.data.toList.drop 17).take 2))) ∧ W = w') := hide (fun W => by
    have e := ext_list s 17 s.size
    rw [X17] at e
    have := rnumber5s_any (s.extract 17 s.size) W (by rw [ext_size]; omega)
    rw [e] at this
    exact this)
  clear X17
  have bY := nb_bd ((s.data.toList.drop 0).take 4)
  have bM := nb_bd ((s.data.toList.drop 5).take 2)
  have bD := nb_bd ((s.data.toList.drop 8).take 2)
  have bH := nb_bd ((s.data.toList.drop 11).take 2)
  have bI := nb_bd ((s.data.toList.drop 14).take 2)
  have bX := nb_bd ((s.data.toList.drop 17).take 2)
  generalize nbI ((s.data.toList.drop 0).take 4) = Y at *
  generalize nbI ((s.data.toList.drop 5).take 2) = M at *
  generalize nbI ((s.data.toList.drop 8).take 2) = Dd at *
  generalize nbI ((s.data.toList.drop 11).take 2) = H at *
  generalize nbI ((s.data.toList.drop 14).take 2) = I at *
  generalize nbI ((s.data.toList.drop 17).take 2) = X at *
  have VA := hide (fun W => rvaliddate_any Y M Dd W)
  unfold BPost at VA
  have key : (ckV s.data.toList = (0, 7) ∧ decide (vdI Y M Dd) = false) ∨ (ckV s.data.toList = (0, 7) ∧ decide (vdI Y M Dd) = true ∧ decide (H < 0) = true) ∨ (ckV s.data.toList = (0, 7) ∧ decide (vdI Y M Dd) = true ∧ decide (H < 0) = false ∧ decide ((23 : Int) < H) = true) ∨ (ckV s.data.toList = (0, 7) ∧ decide (vdI Y M Dd) = true ∧ decide (H < 0) = false ∧ decide ((23 : Int) < H) = false ∧ decide (I < 0) = true) ∨ (ckV s.data.toList = (0, 7) ∧ decide (vdI Y M Dd) = true ∧ decide (H < 0) = false ∧ decide ((23 : Int) < H) = false ∧ decide (I < 0) = false ∧ decide ((59 : Int) < I) = true) ∨ (ckV s.data.toList = (0, 7) ∧ decide (vdI Y M Dd) = true ∧ decide (H < 0) = false ∧ decide ((23 : Int) < H) = false ∧ decide (I < 0) = false ∧ decide ((59 : Int) < I) = false ∧ decide (X < 0) = true) ∨ (ckV s.data.toList = (0, 7) ∧ decide (vdI Y M Dd) = true ∧ decide (H < 0) = false ∧ decide ((23 : Int) < H) = false ∧ decide (I < 0) = false ∧ decide ((59 : Int) < I) = false ∧ decide (X < 0) = false ∧ decide ((59 : Int) < X) = true) ∨ ((VD Y.toNat M.toNat Dd.toNat ∧ ckV s.data.toList = (atV2 ((((dnN Y.toNat M.toNat Dd.toNat : Nat) : Int) - 730119) * 86400 + ((H.toNat * 3600 + I.toNat * 60 + X.toNat : Nat) : Int)), atE2 ((((dnN Y.toNat M.toNat Dd.toNat : Nat) : Int) - 730119) * 86400 + ((H.toNat * 3600 + I.toNat * 60 + X.toNat : Nat) : Int)))) ∧ decide (vdI Y M Dd) = true ∧ decide (H < 0) = false ∧ decide ((23 : Int) < H) = false ∧ decide (I < 0) = false ∧ decide ((59 : Int) < I) = false ∧ decide (X < 0) = false ∧ decide ((59 : Int) < X) = false) := by
    by_cases h0 : vdI Y M Dd
    case neg => exact .inl ⟨FB.out (fun q => h0 (q.1)), decide_eq_false h0⟩
    by_cases h1 : ¬ H < 0
    case neg => exact .inr (.inl ⟨FB.out (fun q => h1 (by have := q.2.1.1; omega)), decide_eq_true h0, decide_eq_true (by omega)⟩)
    by_cases h2 : ¬ 23 < H
    case neg => exact .inr (.inr (.inl ⟨FB.out (fun q => h2 (by have := q.2.1.2; omega)), decide_eq_true h0, decide_eq_false h1, decide_eq_true (by omega)⟩))
    by_cases h3 : ¬ I < 0
    case neg => exact .inr (.inr (.inr (.inl ⟨FB.out (fun q => h3 (by have := q.2.2.1.1; omega)), decide_eq_true h0, decide_eq_false h1, decide_eq_false h2, decide_eq_true (by omega)⟩)))
    by_cases h4 : ¬ 59 < I
    case neg => exact .inr (.inr (.inr (.inr (.inl ⟨FB.out (fun q => h4 (by have := q.2.2.1.2; omega)), decide_eq_true h0, decide_eq_false h1, decide_eq_false h2, decide_eq_false h3, decide_eq_true (by omega)⟩))))
    by_cases h5 : ¬ X < 0
    case neg => exact .inr (.inr (.inr (.inr (.inr (.inl ⟨FB.out (fun q => h5 (by have := q.2.2.2.1; omega)), decide_eq_true h0, decide_eq_false h1, decide_eq_false h2, decide_eq_false h3, decide_eq_false h4, decide_eq_true (by omega)⟩)))))
    by_cases h6 : ¬ 59 < X
    case neg => exact .inr (.inr (.inr (.inr (.inr (.inr (.inl ⟨FB.out (fun q => h6 (by have := q.2.2.2.2; omega)), decide_eq_true h0, decide_eq_false h1, decide_eq_false h2, decide_eq_false h3, decide_eq_false h4, decide_eq_false h5, decide_eq_true (by omega)⟩))))))
    exact .inr (.inr (.inr (.inr (.inr (.inr (.inr (⟨FG.out ⟨h0, ⟨by omega, by omega⟩, ⟨by omega, by omega⟩, by omega, by omega⟩, decide_eq_true h0, decide_eq_false h1, decide_eq_false h2, decide_eq_false h3, decide_eq_false h4, decide_eq_false h5, decide_eq_false h6⟩)))))))
  have KEY := hide key
  clear key FB FG
  have X0 := hide (Own.start w)
  go_enter Tryz.func39, Tryz.ntmps39
  go_upto_region 3 with (fail)
  go_cut [4] (fun v4 wx => ∃ gd, v4 = .pointer (some ⟨gd, 0, none⟩) ∧ Hid (Own w wx [(gd, 96, #[.int .i64 Y, .int .i64 M, .int .i64 Dd])]))
  case first =>
    go_region_held3 (fun w' => True) (trivial)
      (first
        | (go_at_call 64; ((with_reducible refine Calls.mono (N0.out _) ?_); rintro e wa ⟨rfl, rfl⟩))
        | (go_at_call 64; ((with_reducible refine Calls.mono (N1.out _) ?_); rintro e wb ⟨rfl, rfl⟩))
        | (go_at_call 64; ((with_reducible refine Calls.mono (N2.out _) ?_); rintro e wc ⟨rfl, rfl⟩)))
    all_goals
      go_wp2_with fail
      go_meet
      first
        | exact ⟨_, rfl, hide (X0.out.alloc _ _)⟩
        | exact ⟨_, rfl, hide (X0.out.drew.alloc _ _)⟩
        | (trace_state; sorry)
  obtain ⟨gd, rfl, HY⟩ := hcut
  clear X0 N0 N1 N2
  have NE : Nonempty (OwnW w [(gd, 96, #[.int .i64 Y, .int .i64 M, .int .i64 Dd])]) := ⟨⟨_, HY.out⟩⟩
  have C1 := fun z : OwnW w [(gd, 96, #[.int .i64 Y, .int .i64 M, .int .i64 Dd])] => z.own.r1
  go_wp2_with fail
  refine wp_region_own (w := w) (L := [(gd, 96, #[.int .i64 Y, .int .i64 M, .int .i64 Dd])]) (by kernel_rfl) (by kernel_rfl) HY.out ?_
  repeat (go_big_quiet_step ((rename_i z; first | with_reducible exact own_same (N3.out _) | with_reducible exact own_same (N4.out _) | with_reducible exact own_same (N5.out _))))
  refine wpQuiet_nil ?_
  rintro W ⟨⟨W, HO⟩, rfl⟩
  have HZ := hide HO
  clear HO HY C1 NE N3 N4 N5
  have hr := HZ.out.r1
  go_wp2_with fail
  refine (VA.out _).mono ?_
  rintro e w2 ⟨rfl, hb⟩
  replace HZ := hide (HZ.out.to hb)
  clear hr hb
  have hr := HZ.out.r1
  rcases KEY.out with ⟨E, k0⟩ | ⟨E, k0, k1⟩ | ⟨E, k0, k1, k2⟩ | ⟨E, k0, k1, k2, k3⟩ | ⟨E, k0, k1, k2, k3, k4⟩ | ⟨E, k0, k1, k2, k3, k4, k5⟩ | ⟨E, k0, k1, k2, k3, k4, k5, k6⟩ | ⟨E, k0, k1, k2, k3, k4, k5, k6⟩
  iterate 7
    · replace E := hide E
      rw [k0]
      clear KEY
      go_wp2
      go_ret2
      exact ⟨by rw [E.out]; rfl, HZ.out.1⟩
  have b0 := E.1
  have e0 := E.2
  obtain ⟨y, rfl⟩ : ∃ y : Nat, Y = (y : Int) := ⟨Y.toNat, by have := of_decide_eq_true k0; have := this.1; omega⟩
  obtain ⟨m, rfl⟩ : ∃ m : Nat, M = (m : Int) := ⟨M.toNat, by have := of_decide_eq_true k0; have := this.2.1; omega⟩
  obtain ⟨d, rfl⟩ : ∃ d : Nat, Dd = (d : Int) := ⟨Dd.toNat, by have := of_decide_eq_true k0; have := this.2.2; omega⟩
  obtain ⟨h, rfl⟩ : ∃ h : Nat, H = (h : Int) := ⟨H.toNat, by have := of_decide_eq_false k1; omega⟩
  obtain ⟨i, rfl⟩ : ∃ i : Nat, I = (i : Int) := ⟨I.toNat, by have := of_decide_eq_false k3; omega⟩
  obtain ⟨x, rfl⟩ : ∃ x : Nat, X = (x : Int) := ⟨X.toNat, by have := of_decide_eq_false k5; omega⟩
  simp only [Int.toNat_natCast] at b0 e0
  have hh := of_decide_eq_false k2
  have hi := of_decide_eq_false k4
  have hx := of_decide_eq_false k6
  obtain ⟨S, hS⟩ : ∃ S, S = h * 3600 + i * 60 + x := ⟨_, rfl⟩
  rw [← hS] at e0
  replace E := hide e0
  have AT := hide (fun W => rat5_any y m d S W b0 (by omega))
  have s1 : IntKind.i64.wrap ((h : Int) * 3600) = (h : Int) * 3600 := IntWalk.i64_in _ (by omega)
  have s2 : IntKind.i64.wrap ((i : Int) * 60) = (i : Int) * 60 := IntWalk.i64_in _ (by omega)
  have s3 : IntKind.i64.wrap ((h : Int) * 3600 + (i : Int) * 60) = (h : Int) * 3600 + (i : Int) * 60 := IntWalk.i64_in _ (by omega)
  have s4 : IntKind.i64.wrap ((h : Int) * 3600 + (i : Int) * 60 + (x : Int)) = (S : Int) := (IntWalk.i64_in _ (by omega)).trans (by omega)
  rw [k0]
  clear KEY b0 e0 hS hh hi hx VA k0 bY bM bD bH bI bX
  generalize atV2 (((dnN y m d : Int) - 730119) * 86400 + (S : Int)) = rv at *
  generalize atE2 (((dnN y m d : Int) - 730119) * 86400 + (S : Int)) = re at *
  unfold RetV at AT
  go_wp2_with fail
  refine (AT.out _).mono ?_
  rintro e w3 ⟨rfl, hb⟩
  have HB := hide (HZ.out.to hb).1
  clear hb hr HZ
  go_wp2
  go_ret2
  exact ⟨by rw [E.out]; rfl, HB.out⟩
end Go.Proofs.YtkjndkeboeieoaaGreatDoor

namespace Go.Proofs.YtkjndkeboeieoaaGreatDoor
open Go Go.RowKit

theorem words_l (l : List UInt8) (w : World) (hl : l.length ≤ 1000000) : Calls Tryz.prog 38 #[strV l] w (RwP (pts 32 l) w) := by
  have := words_any ⟨l.toArray⟩ w (by simpa [ByteArray.size] using hl)
  simpa using this
theorem rlines_l (l : List UInt8) (w : World) (hl : l.length ≤ 1000000) : Calls Tryz.prog 37 #[strV l] w (LnPost l w) := by
  have := rlines_any ⟨l.toArray⟩ w (by simpa [ByteArray.size] using hl)
  simpa using this
theorem rint_l (l : List UInt8) (w : World) (hl : l.length ≤ 1000000) : Calls Tryz.prog 40 #[strV l] w fun e w' => e = .returned (.int .i64 (rvI l)) ∧ w = w' := by
  have := rinteger_any ⟨l.toArray⟩ w (by simp [ByteArray.size]; unfold maxLen; omega)
  simpa using this
theorem rckparse_l (l : List UInt8) (w : World) (hl : l.length ≤ 2000000) : Calls Tryz.prog 39 #[strV l] w (RetV (.tuple #[.int .i64 (ckV l).1, .int .i64 (ckV l).2]) w) := by
  have := rckparse_any ⟨l.toArray⟩ w (by simp [ByteArray.size]; unfold maxLen; omega)
  simpa using this
theorem rvI_lt (l : List UInt8) : rvI l < 1000000000000000 := by
  unfold rvI
  split
  · rename_i h
    have := rv_val h
    omega
  · omega
/-- the line i without its end -/
def tlB (s : List UInt8) (i : Nat) : List UInt8 := (lnB s).getD i []
theorem lnB_length (s : List UInt8) : (lnB s).length = (lns s).length := by unfold lnB; rw [List.length_map]
theorem tlB_at {s : List UInt8} {i : Nat} (h : i < (lns s).length) : tlB s i = bodyL (lns s)[i] := by
  unfold tlB lnB
  rw [List.getD_eq_getElem?_getD, List.getElem?_map, List.getElem?_eq_getElem h]
  rfl
theorem tlB_get {s : List UInt8} {i : Nat} (h : i < (lnB s).length) : (lnB s)[i] = tlB s i := by
  unfold tlB
  rw [List.getD_eq_getElem?_getD, List.getElem?_eq_getElem h]
  rfl
theorem tlB_len (s : List UInt8) (i : Nat) : (tlB s i).length ≤ s.length + 1 := by
  by_cases h : i < (lns s).length
  · rw [tlB_at h]
    have h1 := lns_len (s := s) _ (List.getElem_mem h)
    have h2 := body_len (lns s)[i]
    omega
  · unfold tlB
    rw [List.getD_eq_getElem?_getD, List.getElem?_eq_none (by rw [lnB_length]; omega)]
    simp
theorem lns_drop {s : List UInt8} {i : Nat} (h : i < (lns s).length) : (lns s).drop i = (lns s)[i] :: (lns s).drop (i + 1) := List.drop_eq_getElem_cons h
theorem drop_last {s : List UInt8} {i : Nat} (h : i < (lns s).length) : ((lns s).drop (i + 1)).isEmpty = decide (i + 1 = (lns s).length) := by
  cases hd : (lns s).drop (i + 1) with
  | nil => have := congrArg List.length hd; rw [List.length_drop, List.length_nil] at this; simp; omega
  | cons y u => have := congrArg List.length hd; rw [List.length_drop, List.length_cons] at this; simp; omega
theorem rp0_bad {s : List UInt8} (h : 0 < (lns s).length) (hb : hdO (tlB s 0) = none ∨ ((lns s).length = 1 ∧ enB s = false)) : prGL (lns s) 0 S0 = (S0, 1, 7) := by
  have hd := lns_drop h
  rw [List.drop_zero] at hd
  have he := lns_end s 0 h
  rw [tlB_at h] at hb
  rw [hd, prGL]
  have hs : stG 0 S0 (lns s)[0] ((lns s).drop (0 + 1)).isEmpty = none := by
    unfold stG
    rcases hb with hb | ⟨h1, h2⟩
    · rw [if_pos rfl, hb]
      split <;> rfl
    · rw [if_neg]
      rw [he, if_pos (by omega), h2]
      decide
  rw [hs]
  rfl
theorem rp0_ok {s : List UInt8} {a b : Int} (h : 0 < (lns s).length) (hb : hdO (tlB s 0) = some (a, b)) (hn : ¬ ((lns s).length = 1 ∧ enB s = false)) : prGL (lns s) 0 S0 = prGL ((lns s).drop 1) 1 ⟨a, b, []⟩ := by
  have hd := lns_drop h
  rw [List.drop_zero] at hd
  have he := lns_end s 0 h
  rw [tlB_at h] at hb
  have he2 : endB (lns s)[0] = true := by
    rw [he]
    split
    · rename_i h1
      cases hc : enB s with
      | true => rfl
      | false => exact absurd ⟨by omega, hc⟩ hn
    · rfl
  conv => lhs; rw [hd, prGL]
  have hs : stG 0 S0 (lns s)[0] ((lns s).drop (0 + 1)).isEmpty = some ⟨a, b, []⟩ := by
    unfold stG
    rw [if_pos he2, if_pos rfl, hb]
  rw [hs]
theorem rp_bad {s : List UInt8} {i : Nat} {a : Ser} (h0 : 1 ≤ i) (h : i < (lns s).length) (hb : (i + 1 = (lns s).length ∧ enB s = false) ∨ 12 < (pts 32 (tlB s i)).length ∨ (i + 1 ≠ (lns s).length ∧ (pts 32 (tlB s i)).length ≠ 12) ∨ ∃ j, j < (pts 32 (tlB s i)).length ∧ wdB ((pts 32 (tlB s i)).getD j []) = false) :
    prGL ((lns s).drop i) i a = (S0, (i : Int) + 1, 7) := by
  have he := lns_end s i h
  rw [tlB_at h] at hb
  rw [lns_drop h, prGL]
  have hs : stG i a (lns s)[i] ((lns s).drop (i + 1)).isEmpty = none := by
    unfold stG
    rw [drop_last h]
    rcases hb with ⟨h1, h2⟩ | h1 | ⟨h1, h2⟩ | ⟨j, hj, h1⟩
    · rw [if_neg]
      rw [he, if_pos h1, h2]
      decide
    · split
      · rw [if_neg (by omega), if_neg]
        intro h2
        have := h2.1
        unfold dpB at this
        simp only [Bool.and_eq_true, decide_eq_true_eq] at this
        omega
      · rfl
    · split
      · rw [if_neg (by omega), if_neg]
        intro h3
        rcases h3.2 with h4 | h4
        · unfold dpL at h4; rw [List.length_map] at h4; exact h2 h4
        · exact h1 (of_decide_eq_true h4)
      · rfl
    · split
      · rw [if_neg (by omega), if_neg]
        intro h2
        have := h2.1
        unfold dpB at this
        simp only [Bool.and_eq_true, List.all_eq_true] at this
        have h3 := this.2 _ (List.getElem_mem hj)
        rw [List.getD_eq_getElem?_getD, List.getElem?_eq_getElem hj] at h1
        rw [Option.getD_some, h3] at h1
        cases h1
      · rfl
  rw [hs]
theorem rp_ok {s : List UInt8} {i : Nat} {a : Ser} (h0 : 1 ≤ i) (h : i < (lns s).length) (h1 : i + 1 = (lns s).length → enB s = true) (h2 : (pts 32 (tlB s i)).length ≤ 12) (h3 : i + 1 = (lns s).length ∨ (pts 32 (tlB s i)).length = 12) (h4 : ∀ j, j < (pts 32 (tlB s i)).length → wdB ((pts 32 (tlB s i)).getD j []) = true) :
    prGL ((lns s).drop i) i a = prGL ((lns s).drop (i + 1)) (i + 1) ⟨a.fr, a.st, a.ds ++ (pts 32 (tlB s i)).map wdV⟩ := by
  have he := lns_end s i h
  rw [tlB_at h] at h2 h3 h4 ⊢
  have he2 : endB (lns s)[i] = true := by
    rw [he]
    split
    · rename_i h5; exact h1 h5
    · rfl
  rw [lns_drop h, prGL]
  have hs : stG i a (lns s)[i] ((lns s).drop (i + 1)).isEmpty = some ⟨a.fr, a.st, a.ds ++ dpL (bodyL (lns s)[i])⟩ := by
    unfold stG
    rw [drop_last h, if_pos he2, if_neg (by omega), if_pos]
    refine ⟨?_, ?_⟩
    · unfold dpB
      simp only [Bool.and_eq_true, decide_eq_true_eq, List.all_eq_true]
      refine ⟨h2, fun x hx => ?_⟩
      obtain ⟨j, hj, rfl⟩ := List.mem_iff_getElem.1 hx
      have := h4 j hj
      rw [List.getD_eq_getElem?_getD, List.getElem?_eq_getElem hj] at this
      exact this
    · rcases h3 with h3 | h3
      · exact .inr (decide_eq_true h3)
      · exact .inl (by unfold dpL; rw [List.length_map]; exact h3)
  rw [hs]
  rfl
theorem rp_fin {s : List UInt8} {i : Nat} {a : Ser} (h0 : 1 ≤ i) (h : (lns s).length ≤ i) : prGL ((lns s).drop i) i a = if vS a = true then (a, 0, 0) else (S0, 0, 1) := by
  rw [List.drop_eq_nil_of_le h, prGL, if_neg (by omega)]
theorem take_wd {ws : List (List UInt8)} {k : Nat} (h : k < ws.length) : (ws.take (k + 1)).map wdV = (ws.take k).map wdV ++ [wdV (ws.getD k [])] := by
  rw [List.take_add_one, List.getElem?_eq_getElem h, List.map_append, List.getD_eq_getElem?_getD, List.getElem?_eq_getElem h]
  rfl
def RpPost (s : List UInt8) (w : World) (e : Ending) (w' : World) : Prop :=
  Below w.heap.size w w' ∧ ∃ a : SerA, e = .returned (.tuple #[(prG s).1.val a, .int .i64 (prG s).2.1, .int .i64 (prG s).2.2]) ∧ SerSl w' (prG s).1 a
theorem RpPost.err {s : List UInt8} {w w' : World} {ln er : Int} (hb : Below w.heap.size w w') (h : prG s = (S0, ln, er)) : RpPost s w (.returned (.tuple #[.agg #[.int .i64 0, .int .i64 0, .slice none 0 0], .int .i64 ln, .int .i64 er])) w' :=
  ⟨hb, ⟨none, 0⟩, by rw [h]; rfl, by rw [h]; exact SerSl.zero _⟩
theorem SerPost.three {s : List UInt8} {w w' : World} {t : Ser} {x : Value} (h : SerPost t 0 w (.returned (.tuple #[x, .int .i64 0])) w') (hE : prG s = (t, 0, 0)) : RpPost s w (.returned (.tuple #[x, .int .i64 0, .int .i64 0])) w' := by
  obtain ⟨hb, a, e, hs⟩ := h
  have e1 : x = t.val a := by simpa using e
  exact ⟨hb, a, by rw [hE, e1], by rw [hE]; exact hs⟩
/-- another block stands beside the record -/
theorem Gat.more {w wr : World} {B2 o g : Nat} {fr q : Int} {R : List (Nat × TypeId × Array Value)} {KK : List (Nat × Obj)} {v : Value} {n : Nat} {L : List Int} {t : TypeId} {cs : Array Value} (h : Gat w wr B2 o fr q R KK v n L) (hB : Blk wr g t cs) (ht : (3 : TypeId) ≠ t) (hg : g ≠ o) :
    Gat w wr B2 o fr q (R ++ [(g, t, cs)]) KK v n L := by
  refine ⟨⟨h.own.1, fun x hx => ?_⟩, h.row, h.keep, h.b2, fun x hx => ?_, fun x hx => ?_⟩
  · rcases List.mem_cons.1 hx with rfl | hx
    · exact h.own.2 _ (List.mem_cons_self ..)
    · rcases List.mem_append.1 hx with hx | hx
      · exact h.own.2 x (List.mem_cons_of_mem _ hx)
      · rw [List.mem_singleton.1 hx]; exact hB
  · rcases List.mem_append.1 hx with hx | hx
    · exact h.ty x hx
    · rw [List.mem_singleton.1 hx]; exact ht
  · rcases List.mem_append.1 hx with hx | hx
    · exact h.ne x hx
    · rw [List.mem_singleton.1 hx]; exact hg
theorem Gat.less {w wr : World} {B2 o : Nat} {fr q : Int} {R R2 : List (Nat × TypeId × Array Value)} {KK : List (Nat × Obj)} {v : Value} {n : Nat} {L : List Int} (h : Gat w wr B2 o fr q (R ++ R2) KK v n L) : Gat w wr B2 o fr q R KK v n L :=
  ⟨⟨h.own.1, fun x hx => h.own.2 x (by
    rcases List.mem_cons.1 hx with rfl | hx
    · exact List.mem_cons_self ..
    · exact List.mem_cons_of_mem _ (List.mem_append_left _ hx))⟩, h.row, h.keep, h.b2, fun x hx => h.ty x (List.mem_append_left _ hx), fun x hx => h.ne x (List.mem_append_left _ hx)⟩
end Go.Proofs.YtkjndkeboeieoaaGreatDoor
