/- The program's Share: the shares, or the error; nothing that was there is turned. -/
import Derived.Test.YtbmckddjdkjplaaDoorRtShareP
import Derived.Test.YtbmckddjdkjplaaDoorOwn2
import Derived.Test.YtbmckddjdkjplaaDoorDiv64A
import Derived.Test.YtbmckddjdkjplaaDoorShelf
namespace Go.Proofs.YtbmckddjdkjplaaDoor
open Go.RowKit

theorem below_dnS {B : Nat} {a w : World} (h : Below B a w) (n : Nat) : Below B a (w.drewN n) := ⟨h.os, h.tape, h.output, h.size, h.block⟩
theorem int_info : (Tryd.prog.info? 3).map (fun i => (i.zero, i.size, i.bytes)) = some (some (.int .i64 0), 1, 8) := by kernel_rfl
theorem row_drewN {w : World} {base : Nat} {e : TypeId} {size n : Nat} {v : Value} {xs : List Value} (h : w.ownsRow base e size v n xs) (m : Nat) : (w.drewN m).ownsRow base e size v n xs := h
theorem row_fresh {w : World} {base : Nat} {e : TypeId} {size n m c : Nat} {A : Option Addr} {xs : List Value} (h : w.ownsRow base e size (.slice A n c) m xs) : ∀ a, A = some a → base ≤ a.block :=
  fun a ha => (h.lt a.block (by simp [Value.ownBlock, ha])).1
theorem IntSl.of_row2 {w : World} {base : Nat} {e : TypeId} {A : Option Addr} {n m c : Nat} {l : List Int} (h : w.ownsRow base e 1 (.slice A m c) n (l.map (Value.int .i64)))
    (hb : l.length ≤ 9223372036854775807) (hr : ∀ i (h : i < l.length), -9223372036854775808 ≤ l[i] ∧ l[i] ≤ 9223372036854775807) : IntSl w A l := by
  obtain ⟨A', c', e, h⟩ := IntSl.of_row h hb hr
  injection e with e1
  subst e1
  exact h
theorem row_cap {w : World} {base : Nat} {e : TypeId} {size n m c : Nat} {A : Option Addr} {xs : List Value} (h : w.ownsRow base e size (.slice A n c) m xs) : n ≤ c := by
  rcases h.2 with ⟨h1, _⟩ | ⟨g, cap, cur, h1, _, _, h2, _⟩
  · cases h1; exact Nat.le_refl _
  · cases h1; exact h2
theorem heap_new_at {W : World} {o : Obj} {n : Nat} (h : W.heap.size = n) : (W.alloc o).heap[n]? = some o := by subst h; exact heap_alloc_new W o
def shL (t : Int) (l : List Int) : List Int := if shE t l = 0 then shK t l.sum l l.length else []
def SharePost (t : Int) (l : List Int) (w : World) (e : Ending) (w' : World) : Prop :=
  Below w.heap.size w w' ∧ ∃ (A : Option Addr) (cap : Nat), e = .returned (.tuple #[.slice A (shL t l).length cap, .int .i64 (shE t l)]) ∧ IntSl w' A (shL t l) ∧ (∀ a, A = some a → w.heap.size ≤ a.block) ∧ (shL t l).length ≤ cap
theorem SharePost.err {t : Int} {l : List Int} {w w' : World} {er : Int} (hb : Below w.heap.size w w') (he : shE t l = er) (h0 : er ≠ 0) :
    SharePost t l w (.returned (.tuple #[.slice none 0 0, .int .i64 er])) w' := by
  have e1 : shL t l = [] := by unfold shL; rw [he, if_neg h0]
  exact ⟨hb, none, 0, by rw [e1, he]; rfl, by rw [e1]; exact IntSl.nil _ _, (fun a h => by cases h), by rw [e1]; exact Nat.le_refl _⟩
theorem shE_full {t : Int} {l : List Int} (h : 10000 < l.length) : shE t l = 4 := by simp [shE, h]
theorem shE_total {t : Int} {l : List Int} (h : l.length ≤ 10000) (ht : t < 0 ∨ 1125899906842624 < t) : shE t l = 2 := by unfold shE; rw [if_neg (by omega), if_pos ht]
theorem shE_weight {t : Int} {l : List Int} (h : l.length ≤ 10000) (ht : ¬ (t < 0 ∨ 1125899906842624 < t)) {k : Nat} (hk : k < l.length) (hx : ¬ (0 ≤ l[k] ∧ l[k] ≤ 1125899906842624)) : shE t l = 2 := by
  have : wB l = false := by
    rcases Bool.eq_false_or_eq_true (wB l) with h1 | h1
    · exact absurd (wB_iff.1 h1 k hk) hx
    · exact h1
  unfold shE; rw [if_neg (by omega), if_neg ht, if_pos this]
theorem shE_rest {t : Int} {l : List Int} (h : l.length ≤ 10000) (ht : ¬ (t < 0 ∨ 1125899906842624 < t)) (hw : wOk l) : shE t l = if 1152921504606846976 < l.sum then 5 else if l.sum = 0 then 16 else 0 := by
  unfold shE; rw [if_neg (by omega), if_neg ht, if_neg (by rw [wB_iff.2 hw]; simp)]
theorem shK_bd {t S : Int} {l : List Int} (ht : 0 ≤ t) (ht' : t ≤ 1125899906842624) (hS : 0 < S) (hw : wOk l) (hs : l.sum ≤ S) (i : Nat) (h : i < (shK t S l l.length).length) : 0 ≤ (shK t S l l.length)[i] ∧ (shK t S l l.length)[i] ≤ 1125899906842624 := by
  have h' : i < l.length := by rw [shK_length] at h; exact h
  have e := shK_at t S l l.length i h'
  rw [List.getElem?_eq_getElem h] at e
  injection e with e
  rw [e]
  have b1 := qK_bd ht hS hw hs (i + 1) (by omega)
  have b0 := qK_bd ht hS hw hs i (by omega)
  have m := qK_mono ht hS hw (show i ≤ i + 1 by omega) (by omega)
  omega
set_option maxRecDepth 100000 in
set_option maxHeartbeats 4000000 in
theorem share_any (t : Int) (l : List Int) (A : Option Addr) (cap : Nat) (w : World) (hl : IntSl w A l) :
    Calls Tryd.prog 18 #[.int .i64 t, .slice A l.length cap] w (SharePost t l w) := by
  have hlen : l.length ≤ 9223372036854775807 := hl.1.1
  have HL := hide hl
  clear hl
  by_cases h1 : 10000 < l.length
  · have H := hide (shE_full (t := t) h1)
    have c1 : decide ((10000 : Int) < (l.length : Int)) = true := decide_eq_true (by omega)
    clear h1
    go_enter Tryd.func18, Tryd.ntmps18
    go_wp2
    exact bodyPost_ret (v := .tuple #[.slice none 0 0, .int .i64 4]) (by simp [results, Tryd.results18, go_sem]) rfl (SharePost.err (Below.refl _ _) H.out (by decide))
  have h1' : l.length ≤ 10000 := by omega
  have c1 : decide ((10000 : Int) < (l.length : Int)) = false := decide_eq_false (by omega)
  by_cases h2 : t < 0
  · have H := hide (shE_total (t := t) h1' (.inl h2))
    have c2 : decide (t < 0) = true := decide_eq_true h2
    clear h1 h2 h1'
    go_enter Tryd.func18, Tryd.ntmps18
    go_wp2
    exact bodyPost_ret (v := .tuple #[.slice none 0 0, .int .i64 2]) (by simp [results, Tryd.results18, go_sem]) rfl (SharePost.err (Below.refl _ _) H.out (by decide))
  have c2 : decide (t < 0) = false := decide_eq_false h2
  by_cases h3 : 1125899906842624 < t
  · have H := hide (shE_total (t := t) h1' (.inr h3))
    have c3 : decide (1125899906842624 < t) = true := decide_eq_true h3
    clear h1 h2 h1' h3
    go_enter Tryd.func18, Tryd.ntmps18
    go_wp2
    exact bodyPost_ret (v := .tuple #[.slice none 0 0, .int .i64 2]) (by simp [results, Tryd.results18, go_sem]) rfl (SharePost.err (Below.refl _ _) H.out (by decide))
  have c3 : decide (1125899906842624 < t) = false := decide_eq_false h3
  have ht : ¬ (t < 0 ∨ 1125899906842624 < t) := by omega
  obtain ⟨T, rfl⟩ : ∃ T : Nat, t = (T : Int) := ⟨t.toNat, by omega⟩
  have hT : T ≤ 1125899906842624 := by omega
  have EW := hide (fun k (hk : k < l.length) hx => shE_weight (t := (T : Int)) h1' ht hk hx)
  have ER := hide (fun hw => shE_rest (t := (T : Int)) h1' ht hw)
  have Z := hide (cap_zero l)
  have hT2 : (T : Int) ≤ 1125899906842624 := by omega
  obtain ⟨i0, hi0, hz0, hz1, hz2⟩ := info_parts int_info
  have HT := hide hT
  clear h1 h2 h3 ht hT
  go_enter Tryd.func18, Tryd.ntmps18
  go_wp2
  go_loop [6, 7, 30] (fun v6 v7 v30 => ∃ k : Nat, k ≤ l.length ∧ v30 = .int .i64 k ∧ v6 = .int .i64 (capS l k) ∧ v7 = .bool (bigS l k) ∧ Hid (∀ i (h : i < l.length), i < k → 0 ≤ l[i] ∧ l[i] ≤ 1125899906842624)) (fun _ _ v30 => l.length - (intOf v30).toNat)
  case atStart => exact ⟨0, Nat.zero_le _, rfl, by rw [Z.out.1], by rw [Z.out.2], hide (fun _ _ h => by omega)⟩
  case round =>
    obtain ⟨k, hk, rfl, rfl, rfl, HW⟩ := hrel
    by_cases hlt : k < l.length
    · obtain ⟨b, off, rfl, hbl, hat⟩ := HL.out.2 (by omega)
      have c0 := hat k hlt
      clear hat
      by_cases hx0 : l[k] < 0
      · have d0 : decide (l[k] < 0) = true := decide_eq_true hx0
        have H := hide (EW.out k hlt (by omega))
        clear hx0
        generalize l[k] = x at *
        go_wp2
        exact bodyPost_ret (v := .tuple #[.slice none 0 0, .int .i64 2]) (by simp [results, Tryd.results18, go_sem]) rfl (SharePost.err (Below.refl _ _) H.out (by decide))
      by_cases hx1 : 1125899906842624 < l[k]
      · have d0 : decide (l[k] < 0) = false := decide_eq_false hx0
        have d1 : decide (1125899906842624 < l[k]) = true := decide_eq_true hx1
        have H := hide (EW.out k hlt (by omega))
        clear hx0 hx1
        generalize l[k] = x at *
        go_wp2
        exact bodyPost_ret (v := .tuple #[.slice none 0 0, .int .i64 2]) (by simp [results, Tryd.results18, go_sem]) rfl (SharePost.err (Below.refl _ _) H.out (by decide))
      have d0 : decide (l[k] < 0) = false := decide_eq_false hx0
      have d1 : decide (1125899906842624 < l[k]) = false := decide_eq_false hx1
      have HW' : Hid (∀ i (h : i < l.length), i < k + 1 → 0 ≤ l[i] ∧ l[i] ≤ 1125899906842624) := hide fun i h hi => by
        by_cases e : i = k
        · subst e; omega
        · exact HW.out i h (by omega)
      have CS : 0 ≤ capS l k ∧ capS l k ≤ 1152921504606846976 ∧ (1152921504606846976 < capS l k + l[k] → capS l (k + 1) = 1152921504606846976 ∧ bigS l (k + 1) = true) ∧ (capS l k + l[k] ≤ 1152921504606846976 → capS l (k + 1) = capS l k + l[k] ∧ bigS l (k + 1) = bigS l k) := cap_stepK HW'.out hlt
      obtain ⟨s0, s1, s2, s3⟩ := CS
      have x0 : 0 ≤ l[k] := by omega
      have x1 : l[k] ≤ 1125899906842624 := by omega
      clear hx0 hx1
      generalize capS l k = s at *
      generalize bigS l k = g at *
      generalize l[k] = x at *
      by_cases hc : 1152921504606846976 < s + x
      · have d2 : decide (1152921504606846976 < s + x) = true := decide_eq_true hc
        have S2 := hide (s2 hc)
        clear s2 s3 hc
        go_wp2
        go_round
        case rel => exact ⟨k + 1, by omega, by go_num, by rw [S2.out.1], by rw [S2.out.2], HW'⟩
        case measure => simp [intOf]; omega
      · have d2 : decide (1152921504606846976 < s + x) = false := decide_eq_false hc
        have S2 := hide (s3 (by omega))
        clear s2 s3 hc
        go_wp2
        go_round
        case rel => exact ⟨k + 1, by omega, by go_num, by rw [S2.out.1], by rw [S2.out.2], HW'⟩
        case measure => simp [intOf]; omega
    · have e : k = l.length := by omega
      subst e
      have HW2 : Hid (wOk l) := hide fun i h => HW.out i h h
      have CA := cap_all (l := l)
      have E := ER.out HW2.out
      rw [CA.1, CA.2]
      clear HW CA
      by_cases hb : 1152921504606846976 < l.sum
      · rw [if_pos hb] at E
        rw [if_pos hb, decide_eq_true hb]
        have H := hide E
        clear E hb
        go_wp2
        exact bodyPost_ret (v := .tuple #[.slice none 0 0, .int .i64 5]) (by simp [results, Tryd.results18, go_sem]) rfl (SharePost.err (Below.refl _ _) H.out (by decide))
      rw [if_neg hb] at E
      rw [if_neg hb, decide_eq_false hb]
      by_cases hz : l.sum = 0
      · rw [if_pos hz] at E
        rw [hz]
        have H := hide E
        clear E hb hz
        go_wp2
        exact bodyPost_ret (v := .tuple #[.slice none 0 0, .int .i64 16]) (by simp [results, Tryd.results18, go_sem]) rfl (SharePost.err (Below.refl _ _) H.out (by decide))
      rw [if_neg hz] at E
      have hp := (preS_bd HW2.out l.length (Nat.le_refl _)).1
      rw [preS_all] at hp
      obtain ⟨SS, hSS⟩ : ∃ SS : Nat, l.sum = (SS : Int) := ⟨l.sum.toNat, by omega⟩
      rw [hSS]
      have hS0 : 0 < SS := by omega
      have hS1 : SS ≤ 1152921504606846976 := by omega
      have d3 : ((SS : Int) == 0) = false := by simp; omega
      have hS2 : (SS : Int) ≤ 1152921504606846976 := by omega
      have ST := hide (fun k (hk : k < l.length) => share_step HT.out hSS hS0 hS1 HW2.out k hk)
      have HE := hide (And.intro E (And.intro hSS (And.intro hS0 hS1)))
      clear E hb hz hp hSS hS0 hS1
      have MK : ∀ W : World, (Instr.makeSlice 32 (.int .i64 0) (.int .i64 (l.length : Int))).run Tryd.prog W = .ok (.slice (some ⟨W.heap.size, 0, none⟩) 0 l.length) (W.alloc (.cells (madeCells (Value.int .i64 0).cells (l.length * 1)) 3)) := fun W => by
        have := run_make_rowN (P := Tryd.prog) 32 3 i0 (.int .i64 0) Tryd.underlying32 hi0 hz0 .i64 .i64 0 l.length (by omega) (by rw [hz2]; omega) (by omega) W
        rw [hz1] at this
        exact this
      go_wp2
      have hm0 : (madeCells #[Value.int .i64 0] l.length).size = l.length * 1 := by simp [madeCells]
      have hrow0 := World.ownsRow_made (base := w.heap.size) (e := 3) (size := 1) w (madeCells #[Value.int .i64 0] l.length) l.length (Nat.le_refl _) (by unfold maxLen; omega) hm0
      have hB0 : Below w.heap.size w (w.alloc (.cells (madeCells #[Value.int .i64 0] l.length) 3)) := (Below.refl _ _).alloc (Nat.le_refl _) _
      clear hm0 MK
      go_loopw [10, 11, 12, 56] (fun v10 v11 v12 v56 wr => ∃ k : Nat, k ≤ l.length ∧ v56 = .int .i64 k ∧ v11 = .int .i64 (preS l k) ∧ v12 = .int .i64 (qK (T : Int) (SS : Int) l k) ∧
        Hid (Below w.heap.size w wr ∧ wr.ownsRow w.heap.size 3 1 v10 k ((shK (T : Int) (SS : Int) l k).map (Value.int .i64)))) (fun _ _ _ v56 _ => l.length - (intOf v56).toNat)
      case atStart => exact ⟨0, Nat.zero_le _, rfl, by rw [preS_zero], by rw [qK_zero], hide ⟨hB0, hrow0⟩⟩
      case round =>
        obtain ⟨k, hk, rfl, rfl, rfl, HR⟩ := hrel
        clear hrow0 hB0
        by_cases hlt : k < l.length
        · obtain ⟨b, off, rfl, hbl, hat⟩ := (HL.out.below HR.out.1).2 (by omega)
          have c0 := hat k hlt
          obtain ⟨F, Q, f1, f2, f3, f4, f5, f6, f7, f8, f9, f10, f11⟩ := ST.out k hlt
          have M64 := fun W => Tryd.bits_Mul64 T F (by omega) (by omega) W
          have D64 := fun W => div64_any (T * F / 18446744073709551616) (T * F % 18446744073709551616) SS f3 f4 (by omega) W
          rw [f5] at D64
          have eF : preS l k + l[k] = (F : Int) := by rw [← f1, preS_succ l k hlt]
          have EQ := hide (And.intro f1 f6)
          have b2 : (F : Int) ≤ 1152921504606846976 := by omega
          have b3 : (Q : Int) ≤ 1125899906842624 := by omega
          have ES : Hid (shK (T : Int) (SS : Int) l (k + 1) = shK (T : Int) (SS : Int) l k ++ [(Q : Int) - qK (T : Int) (SS : Int) l k]) := hide (by rw [← f6]; rfl)
          clear hat f1 f2 f3 f4 f5 f6 f7
          generalize T * F / 18446744073709551616 = hi at *
          generalize T * F % 18446744073709551616 = lo at *
          generalize (hi * 18446744073709551616 + lo) % SS = rs at *
          generalize preS l k = p at *
          generalize qK (T : Int) (SS : Int) l k = q at *
          generalize hR : shK (T : Int) (SS : Int) l k = R at *
          generalize l[k] = x at *
          clear hR
          go_wp2_with fail
          refine (M64 _).mono ?_
          rintro e w' ⟨rfl, rfl⟩
          go_wp2_with fail
          refine (D64 _).mono ?_
          rintro e w' ⟨rfl, m, rfl⟩
          have HR := hide (And.intro (below_dnS HR.out.1 m) (row_drewN HR.out.2 m))
          generalize World.drewN _ m = W at *
          go_wp2_with (at_builtin; refine wpList_append_own _ rfl _ _ 32 rfl w.heap.size 3 i0 (.int .i64 0) 1 8 Tryd.underlying32 hi0 hz0 hz1 hz2 rfl (by decide) _ k (R.map (Value.int .i64)) rfl (HR.out.2.alloc (.cells #[.int .i64 ((Q : Int) - q)] 3)) ⟨W.heap.size, 0, none⟩ 1 1 [.int .i64 ((Q : Int) - q)] rfl rfl (World.news_of_block (cs := #[.int .i64 ((Q : Int) - q)]) (t := 3) (fr := (0, 0)) (heap_new_at (by rfl))) (by simp [Value.oneCell']) (by unfold maxLen; omega) (by omega) (by have := HR.out.1.size; simp; omega) ?_; intro v4 w4 hown4 hgrow _)
          have B5 : Below w.heap.size w w4 := (HR.out.1.alloc HR.out.1.size (.cells #[.int .i64 ((Q : Int) - q)] 3)).grown hgrow (by have := HR.out.1.size; simp; omega) (fun k hk => ((HR.out.2.alloc (.cells #[.int .i64 ((Q : Int) - q)] 3)).lt k hk).1)
          have B4 := hide (And.intro B5 hown4)
          clear B5
          clear hown4 hgrow
          go_roundw
          case rel => exact ⟨k + 1, by omega, by go_num, by rw [EQ.out.1], by rw [EQ.out.2], hide ⟨B4.out.1, by rw [ES.out, List.map_append]; exact B4.out.2⟩⟩
          case measure => simp [intOf]; omega
        · have e : k = l.length := by omega
          subst e
          obtain ⟨E, e1, e2, e3⟩ := HE.out
          have hbd : ∀ i (h : i < (shK (T : Int) (SS : Int) l l.length).length), -9223372036854775808 ≤ (shK (T : Int) (SS : Int) l l.length)[i] ∧ (shK (T : Int) (SS : Int) l l.length)[i] ≤ 9223372036854775807 := fun i h => by
            have := shK_bd (t := (T : Int)) (S := (SS : Int)) (by omega) (by omega) (by omega) HW2.out (by omega) i h
            omega
          have hll := shK_length (T : Int) (SS : Int) l l.length
          obtain ⟨A', cp, rfl, hsl⟩ := IntSl.of_row HR.out.2 (by omega) hbd
          have hfr := And.intro (row_fresh HR.out.2) (row_cap HR.out.2)
          have eL : shL (T : Int) l = shK (T : Int) (SS : Int) l l.length := by unfold shL; rw [E, if_pos rfl, e1]
          have FIN := hide (And.intro HR.out.1 (And.intro hsl (And.intro hfr (And.intro eL E))))
          clear hsl hfr eL E e1 e2 e3 hbd hll
          go_wp2
          exact bodyPost_ret (v := .tuple #[.slice A' (shK (T : Int) (SS : Int) l l.length).length cp, .int .i64 0]) (by simp [results, Tryd.results18, go_sem]) rfl
            ⟨FIN.out.1, A', cp, by rw [FIN.out.2.2.2.1, FIN.out.2.2.2.2], by rw [FIN.out.2.2.2.1]; exact FIN.out.2.1, FIN.out.2.2.1.1, by rw [FIN.out.2.2.2.1]; exact FIN.out.2.2.1.2⟩
end Go.Proofs.YtbmckddjdkjplaaDoor
