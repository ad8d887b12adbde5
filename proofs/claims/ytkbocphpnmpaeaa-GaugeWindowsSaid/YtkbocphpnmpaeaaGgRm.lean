/- The reference's Mass and Gaps of depths: what each returns; nothing that was there is turned. -/
import Derived.Test.YtkbocphpnmpaeaaGgRs
import Derived.Test.YtkbocphpnmpaeaaGgGap
import Derived.Deep.RegionLaw
import Derived.Deep.AppendLies
namespace Go.Proofs.Ytkbocphpnmpaeaa
open Go.RowKit

/-- a list of integers of the call's own -/
def ListPost (l : List Int) (w : World) (e : Ending) (w' : World) : Prop :=
  Below w.heap.size w w' ∧ ∃ (A : Option Addr) (cap : Nat), e = .returned (.slice A l.length cap) ∧ IntSl w' A l
def mL (l : List Int) (i : Nat) : List Int := (List.range i).map fun j => ps l (j + 1)
theorem mL_succ (l : List Int) (i : Nat) : mL l (i + 1) = mL l i ++ [ps l (i + 1)] := by simp [mL, List.range_succ]
set_option maxRecDepth 100000 in
set_option maxHeartbeats 2000000 in
theorem rmass_any (l : List Int) (A : Option Addr) (c : Nat) (w : World) (hl : IntSl w A l) (hv : DepB l) (hc : l.length ≤ c) : Calls Try.prog 23 #[.slice A l.length c] w (ListPost (massL l) w) := by
  have le : l.length ≤ 10000 := hv.1
  have HV := hide hv
  have HL := hide hl
  have PB := hide (fun i hi => ps_le (fun i hi => (hv.2 i hi).2) i hi)
  obtain ⟨i0, hi0, hz0, hz1, hz2⟩ := info_parts int_info17
  clear hl hv
  go_enter Try.func23, Try.ntmps23
  go_wp2
  have XH := hide (And.intro (Below.refl w.heap.size w) (World.ownsRow_nil w w.heap.size 3 1))
  go_loopw [3, 4] (fun v3 v4 wr => ∃ i : Nat, i ≤ l.length ∧ v4 = .int .i64 (i : Int) ∧ Hid (Below w.heap.size w wr ∧ wr.ownsRow w.heap.size 3 1 v3 i ((mL l i).map (Value.int .i64)))) (fun _ v4 _ => l.length - (intOf v4).toNat)
  case atStart => exact ⟨0, by omega, rfl, XH⟩
  case round =>
    obtain ⟨i, hi, rfl, Y⟩ := hrel
    by_cases hlt : i < l.length
    · obtain ⟨b, off, rfl, hbl, _⟩ := HL.out.atg (show 0 < l.length by omega)
      have E1 := hide (mL_succ l i)
      have s1 : IntKind.i64.wrap ((i : Int) + 1) = ((i + 1 : Nat) : Int) := (IntWalk.i64_in _ (by omega)).trans (by omega)
      have WL := winL_length (l := l) (a := 0) (b := i + 1) (by omega) (by omega)
      rw [Nat.sub_zero] at WL
      have PW := ps_win (l := l) (a := 0) (b := i + 1) (i + 1) (by omega)
      rw [Nat.zero_add, show ps l 0 = 0 from rfl, Int.sub_zero] at PW
      have RS := fun W (h : IntSl W (some ⟨b, off, none⟩) (winL l 0 (i + 1))) => rsum_any (winL l 0 (i + 1)) (some ⟨b, off, none⟩) c W h (HV.out.win (by omega) (by omega))
      rw [WL, PW] at RS
      have RSH := hide RS
      have WI := hide ((HL.out.below Y.out.1).win (a := 0) (e := i + 1) (by omega) (by omega))
      rw [Nat.add_zero] at WI
      have t2 : (((i + 1 : Nat) : Int)).toNat = i + 1 := by omega
      have q4 : ((i + 1 : Nat) : Int) ≤ (c : Int) := by omega
      have q5 : (0 : Int) ≤ ((i + 1 : Nat) : Int) := by omega
      have f1 : i + 1 ≤ maxLen := by unfold maxLen; omega
      have f2 : (i + 1) * 8 ≤ 140737488355328 := by omega
      have f4 : ∀ u ∈ [Value.int .i64 (ps l (i + 1))], u.oneCell' = true := by intro u hu; simp at hu; subst hu; rfl
      clear RS PW WL
      generalize hL0 : mL l i = L0 at *
      generalize hT : ps l (i + 1) = T at *
      generalize hE : i + 1 = E at *
      have HH := hide (And.intro hL0 (And.intro hT hE))
      clear hL0 hT hE
      have f5 : i + 1 ≤ maxLen := by rw [HH.out.2.2]; exact f1
      have f6 : (i + 1) * 8 ≤ 140737488355328 := by rw [HH.out.2.2]; exact f2
      have s2 := s1
      rw [← HH.out.2.2] at s2
      clear f1 f2
      go_wp2_with fail
      refine (RSH.out _ WI.out).mono ?_
      rintro e w3 ⟨rfl, d, rfl⟩
      have Y3 := hide (And.intro (below_drewN Y.out.1 d) (show (wr.drewN d).ownsRow w.heap.size 3 1 u3 i (L0.map (Value.int .i64)) from Y.out.2))
      generalize wr.drewN d = V at *
      clear RSH WI Y
      go_wp2_with (at_builtin; refine wpList_append_own _ rfl _ _ 22 rfl w.heap.size 3 i0 (.int .i64 0) 1 8 Try.underlying22 hi0 hz0 hz1 hz2 rfl (by decide) _ i (L0.map (Value.int .i64)) rfl (Y3.out.2.alloc (.cells #[.int .i64 T] 3)) ⟨V.heap.size, 0, none⟩ 1 1 [.int .i64 T] rfl rfl (World.news_of_block (cs := #[.int .i64 T]) (t := 3) (fr := (0, 0)) (heap_alloc_new V _)) f4 f5 f6 (by have := Y3.out.1.size; simp; omega) ?_; intro v4 w4 hown4 hgrow _)
      have B5 : Below w.heap.size w w4 := (Y3.out.1.alloc Y3.out.1.size (.cells #[.int .i64 T] 3)).grown hgrow (by have := Y3.out.1.size; simp; omega) (fun k hk => ((Y3.out.2.alloc (.cells #[.int .i64 T] 3)).lt k hk).1)
      have B4 := hide (And.intro B5 hown4)
      clear B5 hown4 hgrow
      go_roundw
      case rel => exact ⟨i + 1, by omega, by rw [HH.out.2.2], hide ⟨B4.out.1, by rw [HH.out.2.2, E1.out, List.map_append, ← HH.out.2.2]; exact B4.out.2⟩⟩
      case measure => have := HH.out.2.2; simp [intOf]; omega
    · have e : i = l.length := by omega
      subst e
      obtain ⟨A', cp, rfl, hs⟩ := IntSl.of_row Y.out.2 (by simp [mL]; omega) (fun i hi => by
        have hi' : i < l.length := by simpa [mL] using hi
        have : (mL l l.length)[i] = ps l (i + 1) := by simp [mL]
        rw [this]
        have p0 := PB.out (i + 1) (by show i + 1 ≤ l.length; omega)
        have p1 := ps_nonneg l (i + 1)
        omega)
      have LH := hide hs
      clear hs
      go_wp2
      go_ret
      exact ⟨Y.out.1, A', cp, rfl, LH.out⟩
theorem row_is {w : World} {base : Nat} {e : TypeId} {size n : Nat} {v : Value} {xs : List Value} (h : w.ownsRow base e size v n xs) : ∃ A c, v = .slice A n c := by
  rcases h.2 with ⟨rfl, h0⟩ | ⟨g, cap, _, rfl, _⟩
  · subst h0; exact ⟨none, 0, rfl⟩
  · exact ⟨_, cap, rfl⟩
/-- a list of spans of the call's own -/
def PairPost (l : List (Int × Int)) (w : World) (e : Ending) (w' : World) : Prop :=
  Below w.heap.size w w' ∧ ∃ (A : Option Addr) (cap : Nat), e = .returned (.slice A l.length cap) ∧ PairSl w' A l
theorem getLastD_at {L : List (Int × Int)} (h : 0 < L.length) : L[L.length - 1]'(by omega) = L.getLastD (0, 0) := by
  rw [List.getLastD_eq_getLast?, List.getLast?_eq_getElem?]
  simp [show L.length - 1 < L.length by omega]
set_option maxRecDepth 100000 in
set_option maxHeartbeats 4000000 in
theorem rgaps_any (l : List Int) (A : Option Addr) (c : Nat) (w : World) (hl : IntSl w A l) (hv : DepB l) : Calls Try.prog 25 #[.slice A l.length c] w (PairPost (gpL l l.length) w) := by
  have le : l.length ≤ 10000 := hv.1
  have HV := hide hv.2
  have HI := hide hl
  obtain ⟨i0, hi0, hz0, hz1, hz2⟩ := info_parts span_info17
  clear hl hv
  go_enter Try.func25, Try.ntmps25
  go_wp2
  have XH := hide (And.intro (Below.refl w.heap.size w) (World.ownsRow_nil w w.heap.size 46 2))
  go_loopw [3, 4] (fun v3 v4 wr => ∃ i : Nat, i ≤ l.length ∧ v4 = .int .i64 (i : Int) ∧ Hid (Below w.heap.size w wr ∧ wr.ownsRow w.heap.size 46 2 v3 (gpL l i).length (flatP (gpL l i)))) (fun _ v4 _ => l.length - (intOf v4).toNat)
  case atStart => exact ⟨0, by omega, rfl, XH⟩
  case round =>
    obtain ⟨i, hi, rfl, Y⟩ := hrel
    by_cases hlt : i < l.length
    · obtain ⟨b, off, rfl, hbl, hat⟩ := (HI.out.below Y.out.1).atg (show 0 < l.length by omega)
      have c0 := hat i hlt
      have v0 := HV.out i hlt
      have g0 : (0 : Int) ≤ (i : Int) := by omega
      have g1 : (i : Int) < (l.length : Int) := by omega
      have GP : Hid (gpL l (i + 1) = if l.getD i 0 = -1 then (if 0 < i ∧ l.getD (i - 1) 0 = -1 then setHi (gpL l i) i else gpL l i ++ [((i : Int), (i : Int))]) else gpL l i) := hide rfl
      have GL := hide (gpL_last l i)
      have gll := (gpL_last l i).2.2.1
      clear hat
      by_cases q : l.getD i 0 = -1
      rotate_left
      · have E := hide (GP.out.trans (if_neg q))
        have q1 : decide (0 ≤ l.getD i 0) = true := decide_eq_true (by omega)
        clear GP q v0
        generalize l.getD i 0 = d at *
        go_wp2
        go_roundw
        case rel => exact ⟨i + 1, by omega, by go_num, by rw [E.out]; exact Y⟩
        case measure => simp [intOf]; omega
      · have GP2 := hide (GP.out.trans (if_pos q))
        rw [q] at c0
        clear GP q v0
        by_cases p : 0 < i ∧ l.getD (i - 1) 0 = -1
        · have E := hide (GP2.out.trans (if_pos p))
          obtain ⟨n1, n2⟩ := GL.out.1 p.1 p.2
          have n3 := List.length_pos_iff.2 n1
          have s1 := IntWalk.i64_in ((i : Int) - 1) (by omega)
          have EC := hide (flatP_setHi n1 (i : Int))
          have EL := hide (setHi_length n1 (i : Int))
          clear GP2 GL p
          generalize gpL l i = L at *
          obtain ⟨g, cap, rfl⟩ := row_form Y.out.2 n3
          have cz : wr.cell? ⟨g, (L.length - 1) * 2 + 1, none⟩ = some (.int .i64 ((i : Int) - 1)) := by
            rw [(Y.out.2.cellAt ((L.length - 1) * 2 + 1) (by omega)).trans (flatP_at L (L.length - 1) (by omega)).2, getLastD_at n3, n2]
          have fz := Y.out.2.frozenAt ((L.length - 1) * 2 + 1)
          have s2 : IntKind.i64.wrap ((L.length : Int) - 1) = ((L.length - 1 : Nat) : Int) := (IntWalk.i64_in _ (by omega)).trans (by omega)
          have h2 : (0 : Int) ≤ ((L.length - 1 : Nat) : Int) := by omega
          have h3 : ((L.length - 1 : Nat) : Int) < (L.length : Int) := by omega
          have h4 : decide ((0 : Int) < (L.length : Int)) = true := decide_eq_true (by omega)
          have h5 : ((i : Int) - 1 == (i : Int) - 1) = true := by simp
          have ST := Y.out.2.stored ((L.length - 1) * 2 + 1) (.int .i64 (i : Int))
          have ST2 := hide (And.intro (Y.out.1.grown ST.2 Y.out.1.size (fun k hk => (Y.out.2.lt k hk).1)) ST.1)
          clear ST gll n3 n1 n2
          generalize hj : L.length - 1 = j at *
          have HJ := hide hj
          clear hj
          go_wp2
          go_roundw
          case rel => exact ⟨i + 1, by omega, by go_num, by rw [E.out, EL.out, ← EC.out]; exact ST2⟩
          case measure => simp [intOf]; omega
        · have E := hide (GP2.out.trans (if_neg p))
          have s1 := IntWalk.i64_in ((i : Int) - 1) (by omega)
          have NQ := hide (fun (h : gpL l i ≠ []) (h2 : ((gpL l i).getLastD (0, 0)).2 = (i : Int) - 1) => p (GL.out.2.1 h h2))
          clear GP2 GL p
          generalize gpL l i = L at *
          have GLH := hide gll
          by_cases n3 : 0 < L.length
          · have n1 : L ≠ [] := List.length_pos_iff.1 n3
            obtain ⟨g, cap, rfl⟩ := row_form Y.out.2 n3
            have cz : wr.cell? ⟨g, (L.length - 1) * 2 + 1, none⟩ = some (.int .i64 (L.getLastD (0, 0)).2) := by
              rw [(Y.out.2.cellAt ((L.length - 1) * 2 + 1) (by omega)).trans (flatP_at L (L.length - 1) (by omega)).2, getLastD_at n3]
            have h5 : ((L.getLastD (0, 0)).2 == (i : Int) - 1) = false := beq_eq_false_iff_ne.2 (NQ.out n1)
            have s2 : IntKind.i64.wrap ((L.length : Int) - 1) = ((L.length - 1 : Nat) : Int) := (IntWalk.i64_in _ (by omega)).trans (by omega)
            have h2 : (0 : Int) ≤ ((L.length - 1 : Nat) : Int) := by omega
            have h3 : ((L.length - 1 : Nat) : Int) < (L.length : Int) := by omega
            have h4 : decide ((0 : Int) < (L.length : Int)) = true := decide_eq_true (by omega)
            clear gll n3 n1 NQ
            generalize (L.getLastD (0, 0)).2 = y at *
            generalize hj : L.length - 1 = j at *
            have HJ := hide hj
            clear hj
            go_wp2_with (at_builtin; refine wpList_append_own _ rfl _ _ 37 rfl w.heap.size 46 i0 (.agg #[.int .i64 0, .int .i64 0]) 2 16 Try.underlying37 hi0 hz0 hz1 hz2 rfl (by decide) _ L.length (flatP L) rfl (Y.out.2.alloc (.cells #[.int .i64 (i : Int), .int .i64 (i : Int)] 46)) ⟨wr.heap.size, 0, none⟩ 1 1 [.int .i64 (i : Int), .int .i64 (i : Int)] rfl rfl (World.news_of_block (cs := #[.int .i64 (i : Int), .int .i64 (i : Int)]) (t := 46) (fr := (0, 0)) (heap_alloc_new wr _)) (by simp [Value.oneCell']) (by unfold maxLen; have := GLH.out; omega) (by have := GLH.out; omega) (by have := Y.out.1.size; simp; omega) ?_; intro v4 w4 hown4 hgrow _)
            have B5 : Below w.heap.size w w4 := (Y.out.1.alloc Y.out.1.size (.cells #[.int .i64 (i : Int), .int .i64 (i : Int)] 46)).grown hgrow (by have := Y.out.1.size; simp; omega) (fun k hk => ((Y.out.2.alloc (.cells #[.int .i64 (i : Int), .int .i64 (i : Int)] 46)).lt k hk).1)
            have B4 := hide (And.intro B5 hown4)
            clear B5 hown4 hgrow
            go_roundw
            case rel => exact ⟨i + 1, by omega, by go_num, by rw [E.out, flatP_append, List.length_append]; exact B4⟩
            case measure => simp [intOf]; omega
          · have n1 : L = [] := by
              cases L with
              | nil => rfl
              | cons x m => simp at n3
            subst n1
            have YR0 : wr.ownsRow w.heap.size 46 2 u3 0 [] := Y.out.2
            obtain ⟨A3, c3, rfl⟩ := row_is YR0
            have YR := hide YR0
            clear YR0
            clear gll n3 NQ
            go_wp2_with (at_builtin; refine wpList_append_own _ rfl _ _ 37 rfl w.heap.size 46 i0 (.agg #[.int .i64 0, .int .i64 0]) 2 16 Try.underlying37 hi0 hz0 hz1 hz2 rfl (by decide) _ 0 [] rfl (YR.out.alloc (.cells #[.int .i64 (i : Int), .int .i64 (i : Int)] 46)) ⟨wr.heap.size, 0, none⟩ 1 1 [.int .i64 (i : Int), .int .i64 (i : Int)] rfl rfl (World.news_of_block (cs := #[.int .i64 (i : Int), .int .i64 (i : Int)]) (t := 46) (fr := (0, 0)) (heap_alloc_new wr _)) (by simp [Value.oneCell']) (by unfold maxLen; omega) (by omega) (by have := Y.out.1.size; simp; omega) ?_; intro v4 w4 hown4 hgrow _)
            have B5 : Below w.heap.size w w4 := (Y.out.1.alloc Y.out.1.size (.cells #[.int .i64 (i : Int), .int .i64 (i : Int)] 46)).grown hgrow (by have := Y.out.1.size; simp; omega) (fun k hk => ((YR.out.alloc (.cells #[.int .i64 (i : Int), .int .i64 (i : Int)] 46)).lt k hk).1)
            have B4 := hide (And.intro B5 hown4)
            clear B5 hown4 hgrow
            go_roundw
            case rel => exact ⟨i + 1, by omega, by go_num, by rw [E.out]; exact B4⟩
            case measure => simp [intOf]; omega
    · have e : i = l.length := by omega
      subst e
      have gl := (gpL_last l l.length).2.2.1
      obtain ⟨A', cap, rfl, ps⟩ := PairSl.of_row Y.out.2 (by unfold maxLen; omega)
      have LH := hide ps
      clear ps gl
      go_wp2
      go_ret
      exact ⟨Y.out.1, A', cap, rfl, LH.out⟩
end Go.Proofs.Ytkbocphpnmpaeaa
