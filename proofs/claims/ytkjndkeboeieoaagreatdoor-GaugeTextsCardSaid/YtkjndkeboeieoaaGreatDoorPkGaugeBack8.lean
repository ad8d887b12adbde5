/- Parts of one proof, joined: The program's reading of an instant: what Parse returns; nothing that was there is turned. (Printed by gen_ckr.py.). The program's first line of a record; nothing that was there is turned. (Printed by gen_gghd2.py.). The program's line of depths; nothing that was there is turned. (Printed by gen_gghd.py.). A range over a function whose iterator keeps its state in a box that it holds: the box is turned between two rounds; the rounds are told which elements have come. strings.Lines: the iterator hands on the lines of a string, in order. -/
import Derived.Test.YtkjndkeboeieoaaGreatDoorPkGaugeBack7
import Derived.Test.YtkjndkeboeieoaaGreatDoorPkGaugeBack1
import Derived.Test.YtkjndkeboeieoaaGreatDoorPkGaugeBack3
import Derived.Test.YtkjndkeboeieoaaGreatDoorPkGaugeBack6
import Derived.Test.YtkjndkeboeieoaaGreatDoorPkGaugeBack4
import Derived.RangeFuncNested
import Derived.RangeFuncBound
import Derived.RangeFuncCalls
import Derived.RangeFuncLeaves
import Derived.RangeFuncBox
import Derived.RangeFuncWrites
import Derived.Shelf.Abstract
import Derived.WalkKit
import Derived.OwnWalkIn
import Derived.TacticsInMore
import Derived.LoopNIn
import Derived.LoopIn
namespace Go.Proofs.YtkjndkeboeieoaaGreatDoor
open Go Go.RowKit

theorem ckV_none {l : List UInt8} (h : ckF l = none) : ckV l = (0, 7) := by unfold ckV; rw [h]
theorem ckV_bad {l : List UInt8} {c : Ck} (h : ckF l = some c) (hc : ¬ c.ok) : ckV l = (0, 7) := by unfold ckV; rw [h]; dsimp only; rw [if_neg hc]
theorem ckV_good {l : List UInt8} {c : Ck} (h : ckF l = some c) (hc : c.ok) : ckV l = (atV2 c.t, atE2 c.t) := by
  unfold ckV
  rw [h]
  dsimp only
  rw [if_pos hc]
  by_cases hr : -68719476736 ≤ c.t ∧ c.t ≤ 68719476736
  · rw [if_pos hr, (at_yes (show insB c.t = true from decide_eq_true hr)).1, (at_yes (show insB c.t = true from decide_eq_true hr)).2]
  · rw [if_neg hr, (at_no (show insB c.t = false from decide_eq_false hr)).1, (at_no (show insB c.t = false from decide_eq_false hr)).2]
theorem take_at {cur : Array Value} {l : List Value} {n : Nat} (h : cur.toList.take n = l) (i : Nat) (hi : i < n) : cur[i]? = l[i]? := by
  rw [← h, List.getElem?_take, if_pos hi]; simp
set_option maxRecDepth 100000 in
set_option maxHeartbeats 4000000 in
theorem ckparse_any (s : ByteArray) (w : World) (hs : s.size ≤ maxLen) : Calls Tryz.prog 62 #[.string s] w (RetV (.tuple #[.int .i64 (ckV s.data.toList).1, .int .i64 (ckV s.data.toList).2]) w) := by
  have NU := hide (fun W => cnumbers_any s ⟨#[48, 48, 48, 48, 45, 48, 48, 45, 48, 48, 32, 48, 48, 58, 48, 48, 58, 48, 48]⟩ W rfl hs)
  cases hc : ckF s.data.toList with
  | none =>
    have E := hide (ckV_none hc)
    rw [nm_no hc] at NU
    clear hc
    go_enter Tryz.func62, Tryz.ntmps62
    go_wp2_with fail
    refine (NU.out _).mono ?_
    rintro e w1 ⟨hb, ⟨-, rfl⟩ | ⟨l, v, h, -⟩⟩
    · have HB := hide hb
      clear hb
      go_wp2
      go_ret2
      exact ⟨by rw [E.out]; rfl, HB.out⟩
    · cases h
  | some c =>
    rw [nm_yes hc] at NU
    have EB := hide (fun h => ckV_bad hc h)
    have EG := hide (fun h => ckV_good hc h)
    have bd := ck_bd hc
    clear hc
    obtain ⟨y, m, d, h, i, x⟩ := c
    unfold Ck.ok Ck.t at EG
    unfold Ck.ok at EB
    dsimp only at NU EB EG bd
    obtain ⟨b1, b2, b3, b4, b5, b6⟩ := bd
    have VA := hide (fun W => validdate_any y m d W)
    unfold BPost at VA
    have key : (ckV s.data.toList = (0, 7) ∧ decide (VD y m d) = false) ∨ (ckV s.data.toList = (0, 7) ∧ decide (VD y m d) = true ∧ decide ((23 : Int) < (h : Int)) = true) ∨ (ckV s.data.toList = (0, 7) ∧ decide (VD y m d) = true ∧ decide ((23 : Int) < (h : Int)) = false ∧ decide ((59 : Int) < (i : Int)) = true) ∨ (ckV s.data.toList = (0, 7) ∧ decide (VD y m d) = true ∧ decide ((23 : Int) < (h : Int)) = false ∧ decide ((59 : Int) < (i : Int)) = false ∧ decide ((59 : Int) < (x : Int)) = true) ∨
        (VD y m d ∧ decide (VD y m d) = true ∧ decide ((23 : Int) < (h : Int)) = false ∧ decide ((59 : Int) < (i : Int)) = false ∧ decide ((59 : Int) < (x : Int)) = false) := by
      by_cases h0 : VD y m d
      case neg => exact .inl ⟨EB.out (fun q => h0 q.1), decide_eq_false h0⟩
      by_cases h1 : h ≤ 23
      case neg => exact .inr (.inl ⟨EB.out (fun q => h1 q.2.1), decide_eq_true h0, decide_eq_true (by omega)⟩)
      by_cases h2 : i ≤ 59
      case neg => exact .inr (.inr (.inl ⟨EB.out (fun q => h2 q.2.2.1), decide_eq_true h0, decide_eq_false (by omega), decide_eq_true (by omega)⟩))
      by_cases h3 : x ≤ 59
      case neg => exact .inr (.inr (.inr (.inl ⟨EB.out (fun q => h3 q.2.2.2), decide_eq_true h0, decide_eq_false (by omega), decide_eq_false (by omega), decide_eq_true (by omega)⟩)))
      exact .inr (.inr (.inr (.inr ⟨h0, decide_eq_true h0, decide_eq_false (by omega), decide_eq_false (by omega), decide_eq_false (by omega)⟩)))
    have KEY := hide key
    clear key EB
    go_enter Tryz.func62, Tryz.ntmps62
    go_wp2_with fail
    refine (NU.out _).mono ?_
    rintro e w1 ⟨hb, ⟨h, -⟩ | ⟨l, v, hl, rfl, hrow⟩⟩
    · cases h
    injection hl with hl
    subst hl
    rcases hrow.2 with ⟨-, h0⟩ | ⟨g, cap, cur, rfl, hg, hh, -, -, -, htk⟩
    · simp at h0
    have e0 := take_at htk 0 (by simp)
    have e1 := take_at htk 1 (by simp)
    have e2 := take_at htk 2 (by simp)
    have e3 := take_at htk 3 (by simp)
    have e4 := take_at htk 4 (by simp)
    have e5 := take_at htk 5 (by simp)
    simp only [List.map_cons, List.getElem?_cons_zero, List.getElem?_cons_succ] at e0 e1 e2 e3 e4 e5
    have HX := hide (show Own w w1 [(g, 3, cur)] from ⟨hb, fun z hz => by rw [List.mem_singleton.1 hz]; exact hh⟩)
    clear htk hh hg hb hrow NU
    have hr := HX.out.r1
    go_upto_region 4 with (fail)
    go_cut [6] (fun v6 wx => ∃ gd, v6 = .pointer (some ⟨gd, 0, none⟩) ∧ Hid (Own w wx [(gd, 96, #[.int .i64 (y : Int), .int .i64 (m : Int), .int .i64 (d : Int)]), (g, 3, cur)]))
    case first =>
      go_region_held3 (fun w' => w'.cell? ⟨g, 0, none⟩ = some (.int .i64 (y : Int)) ∧ w'.cell? ⟨g, 1, none⟩ = some (.int .i64 (m : Int)) ∧ w'.cell? ⟨g, 2, none⟩ = some (.int .i64 (d : Int))) (go_keep) (fail)
      all_goals
        go_wp2_with fail
        go_meet
        first
          | exact ⟨_, rfl, hide (HX.out.alloc _ _)⟩
          | exact ⟨_, rfl, hide (HX.out.drew.alloc _ _)⟩
          | (trace_state; sorry)
    obtain ⟨gd, rfl, HY⟩ := hcut
    clear HX hr
    have hr := HY.out.r2
    go_wp2_with fail
    refine (VA.out _).mono ?_
    rintro e w2 ⟨rfl, hb⟩
    replace HY := hide (HY.out.to hb)
    clear hr hb
    have hr := HY.out.r2
    rcases KEY.out with ⟨E, v⟩ | ⟨E, v, v1⟩ | ⟨E, v, v1, v2⟩ | ⟨E, v, v1, v2, v3⟩ | ⟨hv, v, v1, v2, v3⟩
    iterate 4
      · replace E := hide E
        rw [v]
        clear KEY EG
        go_wp2
        go_ret2
        exact ⟨by rw [E.out]; rfl, HY.out.1⟩
    have hh := of_decide_eq_false v1
    have hi := of_decide_eq_false v2
    have hx := of_decide_eq_false v3
    have E := hide (EG.out ⟨hv, by omega, by omega, by omega⟩)
    rw [v]
    obtain ⟨S, hS⟩ : ∃ S, S = h * 3600 + i * 60 + x := ⟨_, rfl⟩
    rw [← hS] at E
    have AT := hide (fun W => at_any y m d S W hv (by omega))
    have s1 : IntKind.i64.wrap ((h : Int) * 3600) = (h : Int) * 3600 := IntWalk.i64_in _ (by omega)
    have s2 : IntKind.i64.wrap ((i : Int) * 60) = (i : Int) * 60 := IntWalk.i64_in _ (by omega)
    have s3 : IntKind.i64.wrap ((h : Int) * 3600 + (i : Int) * 60) = (h : Int) * 3600 + (i : Int) * 60 := IntWalk.i64_in _ (by omega)
    have s4 : IntKind.i64.wrap ((h : Int) * 3600 + (i : Int) * 60 + (x : Int)) = (S : Int) := (IntWalk.i64_in _ (by omega)).trans (by omega)
    clear KEY EG hS v hh hi hx
    generalize atV2 (((dnN y m d : Int) - 730119) * 86400 + (S : Int)) = rv at *
    generalize atE2 (((dnN y m d : Int) - 730119) * 86400 + (S : Int)) = re at *
    unfold RetV at AT
    have NE : Nonempty (OwnW w [(gd, 96, #[.int .i64 (y : Int), .int .i64 (m : Int), .int .i64 (d : Int)]), (g, 3, cur)]) := ⟨⟨_, HY.out⟩⟩
    have C1 := fun z : OwnW w [(gd, 96, #[.int .i64 (y : Int), .int .i64 (m : Int), .int .i64 (d : Int)]), (g, 3, cur)] => z.own.r2
    go_wp2_with fail
    refine wp_region_own (w := w) (L := [(gd, 96, #[.int .i64 (y : Int), .int .i64 (m : Int), .int .i64 (d : Int)]), (g, 3, cur)]) (by kernel_rfl) (by kernel_rfl) HY.out ?_
    repeat (go_big_quiet_step ((rename_i z; with_reducible exact own_call (AT.out _))))
    refine wpQuiet_nil ?_
    rintro W ⟨⟨W, HO⟩, rfl⟩
    have HZ := hide HO.1
    clear HO HY hr C1 NE
    go_wp2
    go_ret2
    exact ⟨by rw [E.out]; rfl, HZ.out⟩
end Go.Proofs.YtkjndkeboeieoaaGreatDoor

namespace Go.Proofs.YtkjndkeboeieoaaGreatDoor
open Go Go.RowKit

theorem ckparseL (l : List UInt8) (w : World) (hl : l.length ≤ 2000000) : Calls Tryz.prog 62 #[strV l] w (RetV (.tuple #[.int .i64 (ckV l).1, .int .i64 (ckV l).2]) w) := by
  have := ckparse_any ⟨l.toArray⟩ w (by simp [ByteArray.size]; unfold maxLen; omega)
  simpa using this
def HdPost (t : List UInt8) (w : World) (e : Ending) (w' : World) : Prop := Below w.heap.size w w' ∧
  ∃ (a b : Int) (ok : Bool), e = .returned (.tuple #[.agg #[.int .i64 a, .int .i64 b, .slice none 0 0], .bool ok]) ∧ (ok = true → hdO t = some (a, b)) ∧ (ok = false → hdO t = none)
theorem HdPost.no {t : List UInt8} {w w' : World} {a b : Int} (hb : Below w.heap.size w w') (h : hdO t = none) : HdPost t w (.returned (.tuple #[.agg #[.int .i64 a, .int .i64 b, .slice none 0 0], .bool false])) w' :=
  ⟨hb, a, b, false, rfl, (fun h => by cases h), fun _ => h⟩
theorem HdPost.yes {t : List UInt8} {w w' : World} {a b : Int} (hb : Below w.heap.size w w') (h : hdO t = some (a, b)) : HdPost t w (.returned (.tuple #[.agg #[.int .i64 a, .int .i64 b, .slice none 0 0], .bool true])) w' :=
  ⟨hb, a, b, true, rfl, fun _ => h, (fun h => by cases h)⟩
theorem hdO_len {t : List UInt8} (h : ¬ (pts 32 t).length = 5) : hdO t = none := by
  unfold hdO
  split
  · rename_i hp; rw [hp] at h; exact absurd rfl h
  · rfl
theorem hdO_five {t a b c d e : List UInt8} (h : pts 32 t = [a, b, c, d, e]) : hdO t = if a = [114, 97, 105, 110] ∧ d = [115, 116, 101, 112] ∧ (ckV (b ++ 32 :: c)).2 = 0 ∧ rvB e = true then some ((ckV (b ++ 32 :: c)).1, ((valL 0 e : Nat) : Int)) else none := by
  unfold hdO; rw [h]
theorem five {α : Type} {l : List α} (h : l.length = 5) : ∃ a b c d e, l = [a, b, c, d, e] := by
  match l, h with
  | [a, b, c, d, e], _ => exact ⟨a, b, c, d, e, rfl⟩
set_option maxRecDepth 100000 in
set_option maxHeartbeats 4000000 in
theorem head_any (t : List UInt8) (w : World) (hx : t.length ≤ 900000) (ht : TxtW w) : Calls Tryz.prog 35 #[strV t] w (HdPost t w) := by
  have HT := hide ht
  have SP := hide (fun W hW => split_any t 32 W (by omega) hW)
  have PL := hide (fun p (hp : p ∈ pts 32 t) => pts_len p hp)
  have X := (Own.start w).alloc #[.int .i64 0, .int .i64 0, .slice none 0 0] 24
  have hr := X.r1
  clear ht
  by_cases h5 : (pts 32 t).length = 5
  case neg =>
    have E := hide (fun w' (hb : Below w.heap.size w w') => HdPost.no (a := 0) (b := 0) hb (hdO_len h5))
    have PC := pts_length 32 t
    clear PL
    generalize pts 32 t = ws at *
    have q1 : ((ws.length : Int) == 5) = false := beq_eq_false_iff_ne.2 (by omega)
    have q2 : ((ws.length : Int) != 5) = true := by simp; omega
    clear h5
    go_enter Tryz.func35, Tryz.ntmps35
    go_wp2_with fail
    refine (SP.out _ (HT.out.below X.1)).mono ?_
    rintro e w2 ⟨hb, A, c, rfl, hsl, hc⟩
    replace X := X.to hb
    clear hb hr hsl SP
    have hr := X.r1
    go_wp2
    exact bodyPost_ret (v := .tuple #[.agg #[.int .i64 0, .int .i64 0, .slice none 0 0], .bool false]) (by simp [results, Tryz.results35, hr, go_sem]) rfl (E.out _ (by have HX := X.1; have hz := HX.size; go_grown))
  obtain ⟨a, b, c, d, e5, hp⟩ := five h5
  have EH := hide (hdO_five hp)
  rw [hp] at SP PL
  have la := PL.out a (by simp)
  have lb := PL.out b (by simp)
  have lc := PL.out c (by simp)
  have ld := PL.out d (by simp)
  have le := PL.out e5 (by simp)
  clear hp h5 PL
  have N1 := hide (fun W h => gnumber_any e5 W (by omega) h)
  have K1 := hide (fun W => ckparseL (b ++ 32 :: c) W (by simp; omega))
  have key : (hdO t = none ∧ (a == [114, 97, 105, 110]) = false) ∨ (hdO t = none ∧ (a == [114, 97, 105, 110]) = true ∧ (d == [115, 116, 101, 112]) = false) ∨ (hdO t = none ∧ (a == [114, 97, 105, 110]) = true ∧ (d == [115, 116, 101, 112]) = true ∧ nvB e5 = false) ∨
      (hdO t = none ∧ (a == [114, 97, 105, 110]) = true ∧ (d == [115, 116, 101, 112]) = true ∧ nvB e5 = true ∧ ((ckV (b ++ 32 :: c)).2 == 0) = false) ∨ (hdO t = some ((ckV (b ++ 32 :: c)).1, atV e5) ∧ (a == [114, 97, 105, 110]) = true ∧ (d == [115, 116, 101, 112]) = true ∧ nvB e5 = true ∧ ((ckV (b ++ 32 :: c)).2 == 0) = true) := by
    by_cases h1 : a = [114, 97, 105, 110]
    case neg => exact .inl ⟨by rw [EH.out, if_neg (fun h => h1 h.1)], by simpa using h1⟩
    by_cases h2 : d = [115, 116, 101, 112]
    case neg => exact .inr (.inl ⟨by rw [EH.out, if_neg (fun h => h2 h.2.1)], by simpa using h1, by simpa using h2⟩)
    rcases Bool.eq_false_or_eq_true (nvB e5) with h3 | h3
    case inr => exact .inr (.inr (.inl ⟨by rw [EH.out, if_neg (fun h => by have := h.2.2.2; rw [← (nv_same _).1, h3] at this; cases this)], by simpa using h1, by simpa using h2, h3⟩))
    by_cases h4 : (ckV (b ++ 32 :: c)).2 = 0
    case neg => exact .inr (.inr (.inr (.inl ⟨by rw [EH.out, if_neg (fun h => h4 h.2.2.1)], by simpa using h1, by simpa using h2, h3, by simpa using h4⟩)))
    have h5 : rvB e5 = true := by rw [← (nv_same _).1]; exact h3
    exact .inr (.inr (.inr (.inr ⟨by rw [EH.out, if_pos ⟨h1, h2, h4, h5⟩, (nv_same _).2 h5], by simpa using h1, by simpa using h2, h3, by simpa using h4⟩)))
  have KEY := hide key
  clear key EH
  obtain ⟨L1, hL1⟩ : ∃ L1, b ++ [32] = L1 := ⟨_, rfl⟩
  have e1 : b ++ 32 :: c = L1 ++ c := by rw [← hL1]; simp
  have l1 : L1.length = b.length + 1 := by rw [← hL1]; simp
  rw [e1] at K1 KEY
  obtain ⟨L2, hL2⟩ : ∃ L2, L1 ++ c = L2 := ⟨_, rfl⟩
  have d1 : (⟨b.toArray⟩ : ByteArray) ++ ⟨#[32]⟩ = ⟨L1.toArray⟩ := (ba_append b [32]).trans (by rw [hL1])
  have d2 : (⟨L1.toArray⟩ : ByteArray) ++ ⟨c.toArray⟩ = ⟨L2.toArray⟩ := (ba_append L1 c).trans (by rw [hL2])
  have m1 : ¬ 9223372036854775807 < b.length + 1 := by omega
  have m2 : ¬ 9223372036854775807 < L1.length + c.length := by omega
  rw [hL2] at K1 KEY
  generalize nvB e5 = nb at *
  generalize atV e5 = v at *
  generalize (ckV L2).1 = f at *
  generalize (ckV L2).2 = er at *
  clear e1 l1 hL1 hL2
  have hq : ∀ {x y : List UInt8} {o : Bool}, (x == y) = o → (x != y) = !o := fun h => by rw [bne, h]
  rcases KEY.out with ⟨E, q1⟩ | ⟨E, q1, q2⟩ | ⟨E, q1, q2, q3⟩ | ⟨E, q1, q2, q3, q4⟩ | ⟨E, q1, q2, q3, q4⟩
  · replace E := hide E
    have p1 := hq q1
    clear hq KEY
    simp only [Bool.not_false] at p1
    go_enter Tryz.func35, Tryz.ntmps35
    go_wp2_with fail
    refine (SP.out _ (HT.out.below X.1)).mono ?_
    rintro e w2 ⟨hb, A, cap, rfl, hsl, hc⟩
    obtain ⟨g, off, rfl, hbl, hat⟩ := hsl.2 (by simp)
    have c0 := hat 0 (by simp)
    have c1 := hat 1 (by simp)
    have c2 := hat 2 (by simp)
    have c3 := hat 3 (by simp)
    have c4 := hat 4 (by simp)
    simp only [List.getElem_cons_zero, List.getElem_cons_succ, Nat.add_zero] at c0 c1 c2 c3 c4
    simp only [List.length_cons, List.length_nil] at hc
    replace X := X.to hb
    have HTB := hide (HT.out.below X.1)
    clear hb hr hsl SP hat
    have hr := X.r1
    go_wp2
    exact bodyPost_ret (v := .tuple #[.agg #[.int .i64 0, .int .i64 0, .slice none 0 0], .bool false]) (by simp [results, Tryz.results35, hr, go_sem]) rfl (HdPost.no (by have HX := X.1; have hz := HX.size; go_grown) E.out)
  · replace E := hide E
    have p1 := hq q1
    have p2 := hq q2
    clear hq KEY
    simp only [Bool.not_true, Bool.not_false] at p1 p2
    go_enter Tryz.func35, Tryz.ntmps35
    go_wp2_with fail
    refine (SP.out _ (HT.out.below X.1)).mono ?_
    rintro e w2 ⟨hb, A, cap, rfl, hsl, hc⟩
    obtain ⟨g, off, rfl, hbl, hat⟩ := hsl.2 (by simp)
    have c0 := hat 0 (by simp)
    have c1 := hat 1 (by simp)
    have c2 := hat 2 (by simp)
    have c3 := hat 3 (by simp)
    have c4 := hat 4 (by simp)
    simp only [List.getElem_cons_zero, List.getElem_cons_succ, Nat.add_zero] at c0 c1 c2 c3 c4
    simp only [List.length_cons, List.length_nil] at hc
    replace X := X.to hb
    have HTB := hide (HT.out.below X.1)
    clear hb hr hsl SP hat
    have hr := X.r1
    go_wp2
    exact bodyPost_ret (v := .tuple #[.agg #[.int .i64 0, .int .i64 0, .slice none 0 0], .bool false]) (by simp [results, Tryz.results35, hr, go_sem]) rfl (HdPost.no (by have HX := X.1; have hz := HX.size; go_grown) E.out)
  · replace E := hide E
    have p1 := hq q1
    have p2 := hq q2
    subst q3
    clear hq KEY
    simp only [Bool.not_true] at p1 p2
    go_enter Tryz.func35, Tryz.ntmps35
    go_wp2_with fail
    refine (SP.out _ (HT.out.below X.1)).mono ?_
    rintro e w2 ⟨hb, A, cap, rfl, hsl, hc⟩
    obtain ⟨g, off, rfl, hbl, hat⟩ := hsl.2 (by simp)
    have c0 := hat 0 (by simp)
    have c1 := hat 1 (by simp)
    have c2 := hat 2 (by simp)
    have c3 := hat 3 (by simp)
    have c4 := hat 4 (by simp)
    simp only [List.getElem_cons_zero, List.getElem_cons_succ, Nat.add_zero] at c0 c1 c2 c3 c4
    simp only [List.length_cons, List.length_nil] at hc
    replace X := X.to hb
    have HTB := hide (HT.out.below X.1)
    clear hb hr hsl SP hat
    have hr := X.r1
    have NE : Nonempty (OwnW w2 []) := ⟨⟨_, Own.start w2⟩⟩
    have HX := hide X
    have D1 := fun y : OwnW w2 [] => (y.own.1.cell (p := ⟨g, off + 1, none⟩) hbl).trans c1
    have D2 := fun y : OwnW w2 [] => (y.own.1.cell (p := ⟨g, off + 2, none⟩) hbl).trans c2
    go_wp2_with fail
    refine wp_region_own (w := w2) (L := []) (by kernel_rfl) (by kernel_rfl) (Own.start w2) ?_
    repeat (go_big_quiet_step ((rename_i y; with_reducible exact own_call (K1.out _))))
    refine wpQuiet_nil ?_
    rintro W ⟨⟨W, HO⟩, rfl⟩
    have HB := hide HO.1
    have c4' := (HB.out.cell (p := ⟨g, off + 4, none⟩) hbl).trans c4
    replace X := HX.out.to HB.out
    have HT2 := hide (HTB.out.below HB.out)
    clear hr HO D1 D2 NE HX c0 c1 c2 c3 c4 HB
    have hr := X.r1
    go_wp2_with fail
    refine (N1.out _ HT2.out).mono ?_
    rintro e w3 ⟨rfl, hb⟩
    replace X := X.to hb
    clear hb hr c4' HT2
    have hr := X.r1
    go_wp2
    exact bodyPost_ret (v := .tuple #[.agg #[.int .i64 f, .int .i64 v, .slice none 0 0], .bool false]) (by simp [results, Tryz.results35, hr, go_sem]) rfl (HdPost.no (by have HX := X.1; have hz := HX.size; go_grown) E.out)
  · replace E := hide E
    have p1 := hq q1
    have p2 := hq q2
    subst q3
    clear hq KEY
    simp only [Bool.not_true] at p1 p2
    go_enter Tryz.func35, Tryz.ntmps35
    go_wp2_with fail
    refine (SP.out _ (HT.out.below X.1)).mono ?_
    rintro e w2 ⟨hb, A, cap, rfl, hsl, hc⟩
    obtain ⟨g, off, rfl, hbl, hat⟩ := hsl.2 (by simp)
    have c0 := hat 0 (by simp)
    have c1 := hat 1 (by simp)
    have c2 := hat 2 (by simp)
    have c3 := hat 3 (by simp)
    have c4 := hat 4 (by simp)
    simp only [List.getElem_cons_zero, List.getElem_cons_succ, Nat.add_zero] at c0 c1 c2 c3 c4
    simp only [List.length_cons, List.length_nil] at hc
    replace X := X.to hb
    have HTB := hide (HT.out.below X.1)
    clear hb hr hsl SP hat
    have hr := X.r1
    have NE : Nonempty (OwnW w2 []) := ⟨⟨_, Own.start w2⟩⟩
    have HX := hide X
    have D1 := fun y : OwnW w2 [] => (y.own.1.cell (p := ⟨g, off + 1, none⟩) hbl).trans c1
    have D2 := fun y : OwnW w2 [] => (y.own.1.cell (p := ⟨g, off + 2, none⟩) hbl).trans c2
    go_wp2_with fail
    refine wp_region_own (w := w2) (L := []) (by kernel_rfl) (by kernel_rfl) (Own.start w2) ?_
    repeat (go_big_quiet_step ((rename_i y; with_reducible exact own_call (K1.out _))))
    refine wpQuiet_nil ?_
    rintro W ⟨⟨W, HO⟩, rfl⟩
    have HB := hide HO.1
    have c4' := (HB.out.cell (p := ⟨g, off + 4, none⟩) hbl).trans c4
    replace X := HX.out.to HB.out
    have HT2 := hide (HTB.out.below HB.out)
    clear hr HO D1 D2 NE HX c0 c1 c2 c3 c4 HB
    have hr := X.r1
    go_wp2_with fail
    refine (N1.out _ HT2.out).mono ?_
    rintro e w3 ⟨rfl, hb⟩
    replace X := X.to hb
    clear hb hr c4' HT2
    have hr := X.r1
    go_wp2
    exact bodyPost_ret (v := .tuple #[.agg #[.int .i64 f, .int .i64 v, .slice none 0 0], .bool false]) (by simp [results, Tryz.results35, hr, go_sem]) rfl (HdPost.no (by have HX := X.1; have hz := HX.size; go_grown) E.out)
  · replace E := hide E
    have p1 := hq q1
    have p2 := hq q2
    subst q3
    clear hq KEY
    simp only [Bool.not_true] at p1 p2
    go_enter Tryz.func35, Tryz.ntmps35
    go_wp2_with fail
    refine (SP.out _ (HT.out.below X.1)).mono ?_
    rintro e w2 ⟨hb, A, cap, rfl, hsl, hc⟩
    obtain ⟨g, off, rfl, hbl, hat⟩ := hsl.2 (by simp)
    have c0 := hat 0 (by simp)
    have c1 := hat 1 (by simp)
    have c2 := hat 2 (by simp)
    have c3 := hat 3 (by simp)
    have c4 := hat 4 (by simp)
    simp only [List.getElem_cons_zero, List.getElem_cons_succ, Nat.add_zero] at c0 c1 c2 c3 c4
    simp only [List.length_cons, List.length_nil] at hc
    replace X := X.to hb
    have HTB := hide (HT.out.below X.1)
    clear hb hr hsl SP hat
    have hr := X.r1
    have NE : Nonempty (OwnW w2 []) := ⟨⟨_, Own.start w2⟩⟩
    have HX := hide X
    have D1 := fun y : OwnW w2 [] => (y.own.1.cell (p := ⟨g, off + 1, none⟩) hbl).trans c1
    have D2 := fun y : OwnW w2 [] => (y.own.1.cell (p := ⟨g, off + 2, none⟩) hbl).trans c2
    go_wp2_with fail
    refine wp_region_own (w := w2) (L := []) (by kernel_rfl) (by kernel_rfl) (Own.start w2) ?_
    repeat (go_big_quiet_step ((rename_i y; with_reducible exact own_call (K1.out _))))
    refine wpQuiet_nil ?_
    rintro W ⟨⟨W, HO⟩, rfl⟩
    have HB := hide HO.1
    have c4' := (HB.out.cell (p := ⟨g, off + 4, none⟩) hbl).trans c4
    replace X := HX.out.to HB.out
    have HT2 := hide (HTB.out.below HB.out)
    clear hr HO D1 D2 NE HX c0 c1 c2 c3 c4 HB
    have hr := X.r1
    go_wp2_with fail
    refine (N1.out _ HT2.out).mono ?_
    rintro e w3 ⟨rfl, hb⟩
    replace X := X.to hb
    clear hb hr c4' HT2
    have hr := X.r1
    go_wp2
    exact bodyPost_ret (v := .tuple #[.agg #[.int .i64 f, .int .i64 v, .slice none 0 0], .bool true]) (by simp [results, Tryz.results35, hr, go_sem]) rfl (HdPost.yes (by have HX := X.1; have hz := HX.size; go_grown) E.out)
end Go.Proofs.YtkjndkeboeieoaaGreatDoor

namespace Go.Proofs.YtkjndkeboeieoaaGreatDoor
open Go Go.RowKit

def DpPost (t : List UInt8) (w : World) (e : Ending) (w' : World) : Prop := Below w.heap.size w w' ∧
  ∃ (L : List Int) (v : Value), e = .returned (.tuple #[v, .bool (dpB t)]) ∧ w'.ownsRow w.heap.size 3 1 v L.length (L.map (Value.int .i64)) ∧ (dpB t = true → L = dpL t) ∧ L.length ≤ t.length + 1
theorem DpPost.no {t : List UInt8} {w w' : World} (hb : Below w.heap.size w w') (h : dpB t = false) : DpPost t w (.returned (.tuple #[.slice none 0 0, .bool false])) w' :=
  ⟨hb, [], .slice none 0 0, by rw [h], World.ownsRow_nil _ _ _ _, fun h' => (by rw [h] at h'; cases h'), Nat.zero_le _⟩
set_option maxRecDepth 100000 in
set_option maxHeartbeats 4000000 in
theorem depths_any (t : List UInt8) (w : World) (hx : t.length ≤ 900000) (ht : TxtW w) : Calls Tryz.prog 36 #[strV t] w (DpPost t w) := by
  have HT := hide ht
  have SP := hide (fun W hW => split_any t 32 W (by omega) hW)
  have PL := hide (fun p (hp : p ∈ pts 32 t) => pts_len p hp)
  have PC := pts_length 32 t
  have EB : Hid (dpB t = (decide ((pts 32 t).length ≤ 12) && (pts 32 t).all wdB)) := hide rfl
  have EL : Hid (dpL t = (pts 32 t).map wdV) := hide rfl
  have NO := hide (fun w' hb h => DpPost.no (t := t) (w := w) (w' := w') hb h)
  generalize pts 32 t = ws at *
  have hwl : ws.length ≤ 900001 := by omega
  have WL : Hid (∀ i, i < ws.length → (ws.getD i []).length ≤ 1000000) := hide (fun i hi => by have := PL.out (ws.getD i []) (by simp [hi]); omega)
  have EW := hide (fun w' i (hi : i < ws.length) (h : wdB (ws.getD i []) = false) hb => NO.out w' hb (by
    rw [EB.out]
    have : ws.all wdB = false := by
      rw [List.all_eq_false]
      exact ⟨ws.getD i [], by simp [hi], by rw [h]; simp⟩
    rw [this]; simp))
  have EY := hide (fun (h : ∀ i, i < ws.length → wdB (ws.getD i []) = true) => (show dpB t = decide (ws.length ≤ 12) by
    rw [EB.out]
    have : ws.all wdB = true := by
      rw [List.all_eq_true]
      intro y hy
      obtain ⟨i, hi, rfl⟩ := List.mem_iff_getElem.1 hy
      have := h i hi
      rw [show ws.getD i [] = ws[i] by simp [hi]] at this
      exact this
    rw [this]; simp))
  obtain ⟨i0, hi0, hz0, hz1, hz2⟩ := info_parts int_info17
  have PCH := hide PC
  clear ht PL NO EB PC
  go_enter Tryz.func36, Tryz.ntmps36
  go_wp2_with fail
  refine (SP.out _ HT.out).mono ?_
  rintro e w2 ⟨hb, A, c, rfl, hsl, hc⟩
  have XB := hide hb
  have SL := hide hsl
  clear hb hsl SP
  go_wp2
  go_loopw [4, 12] (fun v4 v12 wr => ∃ k : Nat, k ≤ ws.length ∧ v12 = .int .i64 k ∧ Hid (Below w2.heap.size w2 wr) ∧ Hid (wr.ownsRow w2.heap.size 3 1 v4 k (((ws.take k).map wdV).map (Value.int .i64))) ∧ Hid (∀ i, i < k → wdB (ws.getD i []) = true)) (fun _ v12 _ => ws.length - (intOf v12).toNat)
  case atStart => exact ⟨0, Nat.zero_le _, rfl, hide (Below.refl _ _), hide (World.ownsRow_nil _ _ _ _), hide (fun i hi => by omega)⟩
  case round =>
    obtain ⟨k, hk, rfl, HB, HR, HA⟩ := hrel
    have XW := hide (below_via XB.out XB.out.size HB.out)
    by_cases hlt : k < ws.length
    · obtain ⟨b, off, rfl, hbl, hat⟩ := SL.out.2 (by omega)
      have c0 := (HB.out.cell (p := ⟨b, off + k, none⟩) hbl).trans (hat k hlt)
      rw [show ws[k] = ws.getD k [] by simp [hlt]] at c0
      have lu := WL.out k hlt
      have EK := hide (fun w' h hb => EW.out w' k hlt h hb)
      have HA2 := hide (fun (h : wdB (ws.getD k []) = true) i (hi : i < k + 1) => (show wdB (ws.getD i []) = true by
        by_cases e : i = k
        · subst e; exact h
        · exact HA.out i (by omega)))
      have TK : Hid ((ws.take (k + 1)).map wdV = (ws.take k).map wdV ++ [wdV (ws.getD k [])]) := hide (by rw [List.take_succ_eq_append_getElem hlt, List.map_append, show ws.getD k [] = ws[k] by simp [hlt]]; rfl)
      have N1 := hide (fun W h => gnumber_any (ws.getD k []) W lu h)
      have WB : Hid (wdB (ws.getD k []) = (decide (ws.getD k [] = [45]) || nvB (ws.getD k []))) := hide (by rw [(nv_same _).1]; rfl)
      have WV : Hid ((ws.getD k [] = [45] → wdV (ws.getD k []) = -1) ∧ (¬ ws.getD k [] = [45] → nvB (ws.getD k []) = true → wdV (ws.getD k []) = atV (ws.getD k []))) := hide ⟨fun h => by unfold wdV; rw [if_pos h], fun h h2 => by unfold wdV; rw [if_neg h, (nv_same _).2 (by rw [← (nv_same _).1]; exact h2)]⟩
      generalize ws.getD k [] = u at *
      have HTW := hide (HT.out.below XW.out)
      generalize hR : (ws.take k).map wdV = R at *
      clear hR hat
      by_cases h45 : u = [45]
      · have q1 : (u == [45]) = true := by simpa using h45
        have HA3 := hide (HA2.out (by rw [WB.out, decide_eq_true h45]; rfl))
        have V1 := WV.out.1 h45
        rw [V1] at TK
        clear WB WV EK HA2 EW V1 EY
        generalize atV u = v at *
        generalize nvB u = nb at *
        cases nb
        all_goals
          have h45' := hide h45
          clear h45
          go_wp2_with fail
          refine (N1.out _ HTW.out).mono ?_
          rintro e w3 ⟨rfl, hb⟩
          have HR3 := hide (row_below HR.out hb)
          have HB3 := hide (below_via HB.out HB.out.size hb)
          clear hb HR HB HTW XW c0
          go_wp2_with (at_builtin; refine wpList_append_own _ rfl _ _ 22 rfl w2.heap.size 3 i0 (.int .i64 0) 1 8 Tryz.underlying22 hi0 hz0 hz1 hz2 rfl (by decide) _ k (R.map (Value.int .i64)) rfl (HR3.out.alloc (.cells #[.int .i64 (-1)] 3)) ⟨w3.heap.size, 0, none⟩ 1 1 [.int .i64 (-1)] rfl rfl (World.news_of_block (cs := #[.int .i64 (-1)]) (t := 3) (fr := (0, 0)) (heap_alloc_new w3 _)) (by simp [Value.oneCell']) (by unfold maxLen; omega) (by omega) (by have := HB3.out.size; simp; omega) ?_; intro v' w5 hown4 hgrow _)
          have B5 : Below w2.heap.size w2 w5 := (HB3.out.alloc HB3.out.size (.cells #[.int .i64 (-1)] 3)).grown hgrow (by have := HB3.out.size; simp; omega) (fun k hk => ((HR3.out.alloc (.cells #[.int .i64 (-1)] 3)).lt k hk).1)
          have B5H := hide B5
          have R5H := hide hown4
          clear B5 hown4 hgrow HR3 HB3
          go_roundw
          case rel => exact ⟨k + 1, by omega, by go_num, B5H, hide (by rw [TK.out, List.map_append]; exact R5H.out), HA3⟩
          case measure => simp [intOf]; omega
      · have q1 : (u == [45]) = false := by simpa using h45
        rcases Bool.eq_false_or_eq_true (nvB u) with hn | hn
        · have HA3 := hide (HA2.out (by rw [WB.out, hn]; simp))
          have V1 := WV.out.2 h45 hn
          rw [V1] at TK
          rw [hn] at N1
          clear WB WV EK HA2 EW V1 EY h45 hn
          generalize atV u = v at *
          go_wp2_with fail
          refine (N1.out _ HTW.out).mono ?_
          rintro e w3 ⟨rfl, hb⟩
          have HR3 := hide (row_below HR.out hb)
          have HB3 := hide (below_via HB.out HB.out.size hb)
          clear hb HR HB HTW XW c0
          go_wp2_with (at_builtin; refine wpList_append_own _ rfl _ _ 22 rfl w2.heap.size 3 i0 (.int .i64 0) 1 8 Tryz.underlying22 hi0 hz0 hz1 hz2 rfl (by decide) _ k (R.map (Value.int .i64)) rfl (HR3.out.alloc (.cells #[.int .i64 v] 3)) ⟨w3.heap.size, 0, none⟩ 1 1 [.int .i64 v] rfl rfl (World.news_of_block (cs := #[.int .i64 v]) (t := 3) (fr := (0, 0)) (heap_alloc_new w3 _)) (by simp [Value.oneCell']) (by unfold maxLen; omega) (by omega) (by have := HB3.out.size; simp; omega) ?_; intro v' w5 hown4 hgrow _)
          have B5 : Below w2.heap.size w2 w5 := (HB3.out.alloc HB3.out.size (.cells #[.int .i64 v] 3)).grown hgrow (by have := HB3.out.size; simp; omega) (fun k hk => ((HR3.out.alloc (.cells #[.int .i64 v] 3)).lt k hk).1)
          have B5H := hide B5
          have R5H := hide hown4
          clear B5 hown4 hgrow HR3 HB3
          go_roundw
          case rel => exact ⟨k + 1, by omega, by go_num, B5H, hide (by rw [TK.out, List.map_append]; exact R5H.out), HA3⟩
          case measure => simp [intOf]; omega
        · have E := hide (fun w' hb => EK.out w' (by rw [WB.out, hn, decide_eq_false h45]; rfl) hb)
          rw [hn] at N1
          clear WB WV EK HA2 EW EY h45 hn TK HR HA
          generalize atV u = v at *
          go_wp2_with fail
          refine (N1.out _ HTW.out).mono ?_
          rintro e w3 ⟨rfl, hb⟩
          have XB3 := hide (below_via XW.out XW.out.size hb)
          clear hb c0
          go_wp2
          exact bodyPost_ret (v := .tuple #[.slice none 0 0, .bool false]) (by simp [results, Tryz.results36, go_sem]) rfl (E.out _ XB3.out)
    · obtain rfl : k = ws.length := by omega
      have OK := hide (EY.out HA.out)
      rw [List.take_length] at HR
      have hr2 : (ws.map wdV).length = ws.length := by simp
      obtain ⟨A', cp, rfl, -⟩ := row_anyG HR.out
      have HR2 := hide (show wr.ownsRow w.heap.size 3 1 (.slice A' ws.length cp) (ws.map wdV).length ((ws.map wdV).map (Value.int .i64)) by rw [hr2]; exact row_mono HR.out XB.out.size)
      clear hr2 HR SL EW EY HA
      by_cases h12 : ws.length ≤ 12
      · have g : decide ((ws.length : Int) ≤ 12) = true := decide_eq_true (by omega)
        rw [decide_eq_true h12] at OK
        go_wp2
        exact bodyPost_ret (v := .tuple #[.slice A' ws.length cp, .bool true]) (by simp [results, Tryz.results36, go_sem]) rfl ⟨XW.out, ws.map wdV, _, by rw [OK.out], HR2.out, fun _ => EL.out.symm, by rw [List.length_map]; exact PCH.out⟩
      · have g : decide ((ws.length : Int) ≤ 12) = false := decide_eq_false (by omega)
        rw [decide_eq_false h12] at OK
        go_wp2
        exact bodyPost_ret (v := .tuple #[.slice A' ws.length cp, .bool false]) (by simp [results, Tryz.results36, go_sem]) rfl ⟨XW.out, ws.map wdV, _, by rw [OK.out], HR2.out, fun h => absurd (OK.out.symm.trans h) (by decide), by rw [List.length_map]; exact PCH.out⟩
end Go.Proofs.YtkjndkeboeieoaaGreatDoor

namespace Go.Proofs.YtkjndkeboeieoaaGreatDoor
open Go Go.RowKit

/-- what is said of a world stays where new blocks come up, and where the box Bs is turned -/
def Bears {β : Type} (Bs : Nat) (J : β → World → Prop) : Prop := ∀ s A B, J s A → A.grownBy B (some Bs) → J s B
/-- an iterator's value that hands on the elements of L, in order, and turns no block that was there but its box Bs, which the rounds leave alone -/
def GivesL {α : Type} (F : Fence) (n : Nat) (P : Program) (gf : Nat) (lb : Array Value) (encs : α → Array Value) (Bs : Nat) (L : List α) (w : World) : Prop :=
  ∀ (l : Nat) (J Jx : List α → World → Prop) (W : World), Below w.heap.size w W → Bears Bs J → Bears Bs Jx →
    (∀ pre x A, pre ++ [x] <+: L → J pre A → YieldAt F (n - 1) P l (encs x) A fun e B => (e = .returned (.bool true) ∧ J (pre ++ [x]) B ∧ B.heap[Bs]? = A.heap[Bs]?) ∨ (e = .returned (.bool false) ∧ Jx (pre ++ [x]) B)) →
    J [] W →
    CallsIn F n P gf (#[.func (.yield l) #[] #[]] ++ lb) W fun e W' => (∃ v, e = .returned v) ∧ (J L W' ∨ ∃ pre, pre <+: L ∧ Jx pre W')
/-- how a round may be left -/
def outL {α : Type} (B Bs : Nat) (I : List α → World → Prop) (Ix : Code → List α → World → Prop) (xs : List α) (W : World) : Exit → Act → World → Prop
  | .normal, _, W' => KeepsFrom B W W' ∧ W'.heap[Bs]? = W.heap[Bs]? ∧ I xs W'
  | .ret, _, W' => KeepsFrom B W W' ∧ Ix .ret xs W'
  | .exit id, _, W' => KeepsFrom B W W' ∧ Ix (.exit id) xs W'
  | .goto t, _, W' => KeepsFrom B W W' ∧ Ix (.goto t) xs W'
  | .panic _, _, _ => False
  | .outgrown, _, _ => False

variable {F : Fence} {n : Nat} {P : Program}
theorem rangeFunc_box {α : Type} {g : Operand} {ps : Array Tmp} {assign body : Code} {Q : Exit → Act → World → Prop} {a : Act} {w : World}
    (hro : F.round = none) (h1 : 1 ≤ n) {gf : Nat} {lb : Array Value} (hg : a.eval g = .func (.func gf) #[] lb) (hFg : F.fn gf) (eg : ∀ args w, (callFunc gf args).run P w = .ok (.enter gf args) w)
    {encs : α → Array Value} {Bs : Nat} {L : List α} (hseq : GivesL F (n - 1) P gf lb encs Bs L w) (hBs : Bs < w.heap.size) (hps : ∀ x, (encs x).size = ps.size)
    (I : List α → World → Prop) (Ix : Code → List α → World → Prop) (hI : OwnFrom w.heap.size I) (hIx : ∀ c, OwnFrom w.heap.size (Ix c)) (kI : Bears Bs I) (kIx : ∀ c, Bears Bs (Ix c)) (h0 : I [] w) (a₁ : α → Act)
    (hassign : ∀ (l : Nat) (x : α) (W : World) (K : Act → World → Prop), K (a₁ x) W → assign.wpIn (F.inRound l) (n - 1 - 1) P (Exit.then K (fun _ _ _ => False)) { tmps := (ps.zip (encs x)).foldl (fun t (p, v) => t.setIfInBounds p v) a.tmps, defers := [] } W)
    (hbody : ∀ (l : Nat) (pre : List α) (x : α) (W : World), pre ++ [x] <+: L → I pre W → body.wpIn (F.inRound l) (n - 1 - 1) P (outL w.heap.size Bs I Ix (pre ++ [x]) W) (a₁ x) W)
    (hdone : ∀ (D : Nat) (W : World), w.heap.size ≤ D → I L W → W.heap[D]? = some (.deferred (some [])) → Q .normal { a with defers := { target := .collected D, args := #[] } :: a.defers } W)
    (hstop : ∀ (D : Nat) (c : Code) (pre : List α) (W : World), w.heap.size ≤ D → pre <+: L → Ix c pre W → W.heap[D]? = some (.deferred (some [])) → c.wpIn F n P Q { a with defers := { target := .collected D, args := #[] } :: a.defers } W) :
    (Code.rangeFunc g ps assign body).wpIn F n P Q a w := by
  refine wpIn_rangeFunc fun fn hfn => ?_
  rw [hro]
  let mk : LoopState → Option Code → Loop := fun st pe => { state := st, pending := pe, fn, tmps := a.tmps, params := ps, assign, body, defers := w.heap.size }
  obtain ⟨W1, hW1⟩ : ∃ W1, (w.alloc (.deferred (some []))).alloc (.loop (mk .ready none)) = W1 := ⟨_, rfl⟩
  have new1 : W1.heap[w.heap.size + 1]? = some (.loop (mk .ready none)) := by
    have := World.alloc_heap_new (w.alloc (.deferred (some []))) (.loop (mk .ready none))
    rw [World.size_alloc] at this
    rw [← hW1]; exact this
  have new0 : W1.heap[w.heap.size]? = some (.deferred (some [])) := by
    rw [← hW1]; exact (Below.heap_alloc _ _ _ (by simp)).trans (World.alloc_heap_new w _)
  have hI1 : I [] W1 := by rw [← hW1]; exact hI.alloc _ (hI.alloc _ h0)
  have hb1 : Below w.heap.size w W1 := by
    rw [← hW1]; exact ((Below.refl _ w).alloc (Nat.le_refl _) _).alloc (by simp) _
  -- the two blocks of the loop's own are no box
  have off : ∀ {A B : World} {k : Nat} {o : Obj}, A.grownBy B (some Bs) → w.heap.size ≤ k → A.heap[k]? = some o → B.heap[k]? = some o := fun {A B k o} hg hk h =>
    (hg.block k (Array.getElem?_eq_some_iff.1 h).1 (fun e => by injection e with e; omega)).trans h
  refine ⟨w.heap.size + 1, [{ target := .collected w.heap.size, args := #[] }], W1, { target := .fn (.func gf) lb, args := #[.func (.yield (w.heap.size + 1)) #[] #[]] }, W1, gf,
    #[.func (.yield (w.heap.size + 1)) #[] #[]] ++ lb, W1, ?_, ?_, ?_, ?_, fun _ => h1, ?_⟩
  · rw [← hW1]; exact run_enterLoop_outer _ _ _ _ _
  · simp only [resolve, hg]
    simp [go_sem]
  · intro f' hf'; simp [Target.leads] at hf'; subst hf'; exact hFg
  · simp [invoke, go_sem, eg]
  · refine (hseq (w.heap.size + 1)
      (fun pre W => I pre W ∧ W.heap[w.heap.size + 1]? = some (.loop (mk .ready none)) ∧ W.heap[w.heap.size]? = some (.deferred (some [])))
      (fun pre W => ∃ c, Ix c pre W ∧ W.heap[w.heap.size + 1]? = some (.loop (mk .done (some c))) ∧ W.heap[w.heap.size]? = some (.deferred (some [])))
      W1 hb1
      (fun s A B hs hg' => ⟨kI s A B hs.1 hg', off hg' (by omega) hs.2.1, off hg' (by omega) hs.2.2⟩)
      (fun s A B hs hg' => by
        obtain ⟨c, hc, hl, hk⟩ := hs
        exact ⟨c, kIx c s A B hc hg', off hg' (by omega) hl, off hg' (by omega) hk⟩)
      ?_ ⟨hI1, new1, new0⟩).mono ?_
    · rintro pre x W hpre ⟨hi, hl, hk⟩
      have hlt : w.heap.size + 1 < W.heap.size := (Array.getElem?_eq_some_iff.1 hl).1
      have hy := run_yield (P := P) (args := encs x) hl (hps x)
      refine ⟨fn, _, assign, body, hy, roundIn_of_wpIn hfn (hassign _ x W _ ⟨_, run_beginRound hl rfl, ?_⟩)⟩
      have hl2 : (W.putObj (w.heap.size + 1) (.loop { mk .ready none with state := .busy })).heap[w.heap.size + 1]? = some (.loop { mk .ready none with state := .busy }) := World.putObj_heap_same hlt
      have hk2 : (W.putObj (w.heap.size + 1) (.loop { mk .ready none with state := .busy })).heap[w.heap.size]? = some (.deferred (some [])) := (World.putObj_heap_other (by omega)).trans hk
      have hB2 : (W.putObj (w.heap.size + 1) (.loop { mk .ready none with state := .busy })).heap[Bs]? = W.heap[Bs]? := World.putObj_heap_other (by omega)
      refine wpIn_mono (hbody _ pre x _ hpre (hI.putObj _ hi (by omega) hl rfl)) ?_
      have fin : ∀ (jump : Option Code) (W3 : World), KeepsFrom w.heap.size (W.putObj (w.heap.size + 1) (.loop { mk .ready none with state := .busy })) W3 →
          (Instr.endRound (w.heap.size + 1) jump).run P W3 = .ok (.bool jump.isNone) (W3.putObj (w.heap.size + 1) (.loop (mk (if jump.isNone then .ready else .done) jump))) ∧
          W3.heap[w.heap.size + 1]? = some (.loop { mk .ready none with state := .busy }) ∧
          (W3.putObj (w.heap.size + 1) (.loop (mk (if jump.isNone then .ready else .done) jump))).heap[w.heap.size + 1]? = some (.loop (mk (if jump.isNone then .ready else .done) jump)) ∧
          (W3.putObj (w.heap.size + 1) (.loop (mk (if jump.isNone then .ready else .done) jump))).heap[w.heap.size]? = some (.deferred (some [])) := fun jump W3 hk3 => by
        have hl3 := hk3.same _ _ (by omega) hl2 rfl
        exact ⟨run_endRound (P := P) jump hl3, hl3, World.putObj_heap_same (Array.getElem?_eq_some_iff.1 hl3).1, (World.putObj_heap_other (by omega)).trans (hk3.same _ _ (Nat.le_refl _) hk2 rfl)⟩
      rintro e a3 W3 hp
      cases e with
      | normal =>
        obtain ⟨hk3, hkp3, hi3⟩ := hp
        obtain ⟨hr, hl3, hl4, hk4⟩ := fin none W3 hk3
        exact ⟨_, _, hr, .inl ⟨rfl, ⟨hI.putObj _ hi3 (by omega) hl3 rfl, hl4, hk4⟩, ((World.putObj_heap_other (by omega)).trans hkp3).trans hB2⟩⟩
      | ret =>
        obtain ⟨hk3, hi3⟩ := hp
        obtain ⟨hr, hl3, hl4, hk4⟩ := fin (some .ret) W3 hk3
        exact ⟨_, _, hr, .inr ⟨rfl, .ret, (hIx _).putObj _ hi3 (by omega) hl3 rfl, hl4, hk4⟩⟩
      | exit id =>
        obtain ⟨hk3, hi3⟩ := hp
        obtain ⟨hr, hl3, hl4, hk4⟩ := fin (some (.exit id)) W3 hk3
        exact ⟨_, _, hr, .inr ⟨rfl, .exit id, (hIx _).putObj _ hi3 (by omega) hl3 rfl, hl4, hk4⟩⟩
      | goto t =>
        obtain ⟨hk3, hi3⟩ := hp
        obtain ⟨hr, hl3, hl4, hk4⟩ := fin (some (.goto t)) W3 hk3
        exact ⟨_, _, hr, .inr ⟨rfl, .goto t, (hIx _).putObj _ hi3 (by omega) hl3 rfl, hl4, hk4⟩⟩
      | panic ch => exact hp.elim
      | outgrown => exact hp.elim
    · rintro e W2 ⟨⟨v, rfl⟩, (⟨hi, hl, hk⟩ | ⟨pre, hSp, c, hi, hl, hk⟩)⟩
      · exact ⟨none, _, run_endLoop (P := P) hl (by simp [mk]), hdone _ _ (Nat.le_refl _) (hI.putObj _ hi (by omega) hl rfl) ((World.putObj_heap_other (by omega)).trans hk)⟩
      · exact ⟨some c, _, run_endLoop (P := P) hl (by simp [mk]), hstop _ c pre _ (Nat.le_refl _) hSp ((hIx c).putObj _ hi (by omega) hl rfl) ((World.putObj_heap_other (by omega)).trans hk)⟩
end Go.Proofs.YtkjndkeboeieoaaGreatDoor

namespace Go.Proofs.YtkjndkeboeieoaaGreatDoor
open Go Go.RowKit Go.Shelf

attribute [local go_sem] Oper.semAt_some

theorem idx_no {c : UInt8} : ∀ {l : List UInt8}, c ∉ l → Lib.indexByte l c = -1
  | [], _ => rfl
  | b :: l, h => by
    have h1 : ¬ b = c := fun e => h (e ▸ List.mem_cons_self ..)
    have h2 := idx_no (fun h' => h (List.mem_cons_of_mem _ h') : c ∉ l)
    simp [Lib.indexByte, h1, h2]
theorem idx_at {c : UInt8} {r : List UInt8} : ∀ {a : List UInt8}, c ∉ a → Lib.indexByte (a ++ c :: r) c = (a.length : Int)
  | [], _ => by simp [Lib.indexByte]
  | b :: l, h => by
    have h1 : ¬ b = c := fun e => h (e ▸ List.mem_cons_self ..)
    have h2 := idx_at (r := r) (fun h' => h (List.mem_cons_of_mem _ h') : c ∉ l)
    have h3 : ¬ (l.length : Int) = -1 := by omega
    simp [Lib.indexByte, h1, h2, h3]
theorem grown_set (w : World) (b i : Nat) (u : Value) : w.grownBy (w.setCell ⟨b, i, none⟩ u) (some b) := by
  refine ⟨rfl, rfl, rfl, by simp [World.setCell], fun k _ hne => ?_⟩
  exact Below.heap_setCell w ⟨b, i, none⟩ u k (fun e => hne (by rw [e]))
theorem grown_drewL (w : World) (row : Option Nat) : w.grownBy w.drew row := ⟨rfl, rfl, rfl, Nat.le_refl _, fun _ _ _ => rfl⟩
/-- how much of the string is left in the box -/
def leftS (Bs : Nat) (w : World) : Nat := match w.cell? ⟨Bs, 0, none⟩ with | some (.string s) => s.size | _ => 0
theorem leftS_of {Bs : Nat} {w : World} {t : TypeId} {l : List UInt8} (h : Blk w Bs t #[strV l]) : leftS Bs w = l.length := by
  unfold leftS
  rw [h.cell]
  simp [ByteArray.size]
set_option maxRecDepth 100000 in
set_option maxHeartbeats 4000000 in
theorem lines1_in (n : Nat) (hn : 1 ≤ n) (l Bs : Nat) (s : List UInt8) (hs : s.length ≤ 9223372036854775807) (J Jx : List (List UInt8) → World → Prop) (kJ : Bears Bs J)
    (hY : ∀ pre x A, pre ++ [x] <+: lns s → J pre A → YieldAt Fence.wide (n - 1) Tryz.prog l #[strV x] A fun e B => (e = .returned (.bool true) ∧ J (pre ++ [x]) B ∧ B.heap[Bs]? = A.heap[Bs]?) ∨ (e = .returned (.bool false) ∧ Jx (pre ++ [x]) B))
    (W : World) (hBs : Blk W Bs 9 #[strV s]) (h0 : J [] W) :
    CallsIn Fence.wide n Tryz.prog 58 #[.func (.yield l) #[] #[], .pointer (some ⟨Bs, 0, none⟩)] W fun e W' => (∃ v, e = .returned v) ∧ (J (lns s) W' ∨ ∃ pre, pre <+: lns s ∧ Jx pre W') := by
  refine callsIn_of_wp Tryz.func58 rfl trivial ?_ rfl
  simp only [Tryz.ntmps58, List.size_toArray, List.length_cons, List.length_nil, Nat.reduceAdd, Nat.reduceSub, Array.replicate_succ, Array.replicate_zero, List.push_toArray, List.append_toArray, List.nil_append, List.cons_append]
  gi_wp2
  gi_loopw [] (fun wr => ∃ (pre : List (List UInt8)) (rest : List UInt8), Hid (Blk wr Bs 9 #[strV rest] ∧ J pre wr ∧ lns s = pre ++ lns rest ∧ rest.length ≤ s.length)) (fun wr => leftS Bs wr)
  case atStart => exact ⟨[], s, hide ⟨hBs, h0, rfl, Nat.le_refl _⟩⟩
  case round =>
    obtain ⟨pre, rest, Y⟩ := hrel
    have c0 := Y.out.1.cell 0
    have f0 := Y.out.1.frozen 0
    have hl := Y.out.2.2.2
    have HN := hide Y.out.2.2.1
    have IB := hide (fun W => Tryz.strings_IndexByte ⟨rest.toArray⟩ 10 W)
    rcases Nat.eq_zero_or_pos rest.length with hz | hz
    · have e : rest = [] := List.eq_nil_of_length_eq_zero hz
      subst e
      have E : lns s = pre := HN.out.trans (List.append_nil _)
      have YJ := Y.out.2.1
      gi_wp2
      go_end0
      exact ⟨⟨_, rfl⟩, .inl YJ⟩
    · by_cases hc : (10 : UInt8) ∈ rest
      · obtain ⟨a, r, rfl, ha⟩ := split_at_first hc
        have e1 : Lib.indexByte (⟨(a ++ 10 :: r).toArray⟩ : ByteArray).data.toList (10 : Int).toNat.toUInt8 = (a.length : Int) := by
          have := idx_at (r := r) ha
          simpa using this
        rw [e1] at IB
        have EL := lns_at (r := r) ha
        have PRE : pre ++ [a ++ [10]] <+: lns s := by rw [Y.out.2.2.1, EL]; exact ⟨lns r, by simp⟩
        have t1 := ba_take (a ++ 10 :: r) (a.length + 1)
        have t2 := ba_drop (a ++ 10 :: r) (a.length + 1)
        have ts : (⟨(a ++ 10 :: r).toArray⟩ : ByteArray).size = a.length + (r.length + 1) := by simp [ByteArray.size]
        rw [show a ++ 10 :: r = (a ++ [10]) ++ r by simp, List.take_left' (by simp)] at t1
        rw [show a ++ 10 :: r = (a ++ [10]) ++ r by simp, List.drop_left' (by simp)] at t2
        rw [show (a ++ [10]) ++ r = a ++ 10 :: r by simp] at t1 t2
        rw [ts] at t2
        have hb1 : a.length + (r.length + 1) ≤ 9223372036854775807 := by simp at hl; omega
        have i1 := IntWalk.i64_in ((a.length : Int) + 1) (by omega)
        have i2 : ((a.length : Int) + 1).toNat = a.length + 1 := by omega
        have i3 : ¬ (a.length : Int) < 0 := by omega
        have YB : Hid (Blk (wr.setCell ⟨Bs, 0, none⟩ (strV r)).drew Bs 9 #[strV r]) := hide (Y.out.1.set_ 0 (strV r)).drew
        have YJ : Hid (J pre (wr.setCell ⟨Bs, 0, none⟩ (strV r)).drew) := hide (kJ _ _ _ (kJ _ _ _ Y.out.2.1 (grown_set wr Bs 0 (strV r))) (grown_drewL _ (some Bs)))
        have EN : Hid (lns s = (pre ++ [a ++ [10]]) ++ lns r) := hide (by rw [Y.out.2.2.1, EL]; simp)
        have HL : Hid (r.length ≤ s.length) := hide (by simp at hl; omega)
        have ME : Hid (leftS Bs wr = a.length + (r.length + 1)) := hide (by rw [leftS_of Y.out.1]; simp)
        have hA : (a ++ 10 :: r).length = a.length + (r.length + 1) := by simp
        clear hl hc EL Y e1 ts hBs h0
        generalize a ++ 10 :: r = A at *
        gi_wp2_with fail
        refine ⟨trivial, (callsIn_wide.2 (IB.out _)).mono ?_⟩
        rintro e w' ⟨rfl, rfl⟩
        gi_wp2
        gi_region
        obtain ⟨fn, tmps, assign, body, hy, hR⟩ := hY pre (a ++ [10]) _ PRE YJ.out
        generalize (World.setCell _ _ _).drew = W4 at *
        gi_wp2
        refine hR.mono ?_
        rintro e W3 (⟨rfl, hJ3, hk3⟩ | ⟨rfl, hJx3⟩)
        · have Z : Hid (Blk W3 Bs 9 #[strV r] ∧ J (pre ++ [a ++ [10]]) W3 ∧ lns s = (pre ++ [a ++ [10]]) ++ lns r ∧ r.length ≤ s.length) := hide ⟨hk3.trans YB.out, hJ3, EN.out, HL.out⟩
          clear hJ3 hk3 hy YB YJ
          gi_wp2
          go_roundw
          case rel => exact ⟨_, _, Z⟩
          case measure => rw [ME.out, leftS_of Z.out.1]; omega
        · gi_wp2
          refine bodyPost_ret (results_none rfl _ _ _) rfl ?_
          exact ⟨⟨_, rfl⟩, .inr ⟨_, PRE, hJx3⟩⟩
      · have e1 : Lib.indexByte (⟨rest.toArray⟩ : ByteArray).data.toList (10 : Int).toNat.toUInt8 = -1 := by
          have := idx_no hc
          simpa using this
        rw [e1] at IB
        have EL := lns_one hc (by intro e; rw [e] at hz; simp at hz)
        have PRE : pre ++ [rest] <+: lns s := by rw [Y.out.2.2.1, EL]; exact ⟨[], by simp⟩
        have YB : Hid (Blk (wr.setCell ⟨Bs, 0, none⟩ (strV [])) Bs 9 #[strV []]) := hide (Y.out.1.set_ 0 (strV []))
        have YJ : Hid (J pre (wr.setCell ⟨Bs, 0, none⟩ (strV []))) := hide (kJ _ _ _ Y.out.2.1 (grown_set wr Bs 0 (strV [])))
        have EN : Hid (lns s = (pre ++ [rest]) ++ lns []) := hide (by rw [Y.out.2.2.1, EL, lns_nil]; simp)
        have ME : Hid (leftS Bs wr = rest.length) := hide (leftS_of Y.out.1)
        have ZR : Hid (∀ W3, W3.heap[Bs]? = (wr.setCell ⟨Bs, 0, none⟩ (strV [])).heap[Bs]? → Blk W3 Bs 9 #[strV []]) := hide fun W3 h => h.trans YB.out
        clear hc EL Y e1 hBs h0 YB
        gi_wp2_with fail
        refine ⟨trivial, (callsIn_wide.2 (IB.out _)).mono ?_⟩
        rintro e w' ⟨rfl, rfl⟩
        obtain ⟨fn, tmps, assign, body, hy, hR⟩ := hY pre rest _ PRE YJ.out
        gi_wp2
        refine hR.mono ?_
        rintro e W3 (⟨rfl, hJ3, hk3⟩ | ⟨rfl, hJx3⟩)
        · have Z : Hid (Blk W3 Bs 9 #[strV []] ∧ J (pre ++ [rest]) W3 ∧ lns s = (pre ++ [rest]) ++ lns [] ∧ ([] : List UInt8).length ≤ s.length) := hide ⟨ZR.out _ hk3, hJ3, EN.out, Nat.zero_le _⟩
          clear hJ3 hk3 hy YJ
          gi_wp2
          go_roundw
          case rel => exact ⟨_, _, Z⟩
          case measure => rw [ME.out, leftS_of Z.out.1]; exact hz
        · gi_wp2
          refine bodyPost_ret (results_none rfl _ _ _) rfl ?_
          exact ⟨⟨_, rfl⟩, .inr ⟨_, PRE, hJx3⟩⟩
/-- strings.Lines boxes the string; the function value holds the box -/
theorem lines_any (s : List UInt8) (w : World) :
    Calls Tryz.prog 33 #[strV s] w fun e w' => e = .returned (.func (.func 58) #[] #[.pointer (some ⟨w.heap.size, 0, none⟩)]) ∧ w' = w.alloc (.cells #[strV s] 9) := by
  go_enter Tryz.func33, Tryz.ntmps33
  go_wp2
  go_ret
  exact ⟨rfl, rfl⟩
/-- the iterator hands each line on, in order -/
theorem lines_gives (n : Nat) (hn : 1 ≤ n) (Bs : Nat) (s : List UInt8) (hs : s.length ≤ 9223372036854775807) (w : World) (hBs : Blk w Bs 9 #[strV s]) :
    GivesL Fence.wide n Tryz.prog 58 #[.pointer (some ⟨Bs, 0, none⟩)] (fun x : List UInt8 => #[strV x]) Bs (lns s) w := fun l J Jx W hW kJ _ hY h0 =>
  lines1_in n hn l Bs s hs J Jx kJ hY W (hBs.below hW hBs.lt) h0
end Go.Proofs.YtkjndkeboeieoaaGreatDoor
