/- Parts of one proof, joined: The program's Finer of records, for factors from 1 on within the limit: what it returns; nothing that was there is turned. The program's Gaps of records: the runs of missing depths; nothing that was there is turned. slices.Equal at spans: whether two lists are equal; it draws at most. The examples of chapter 17 hold; nothing that was there is turned. The law's few of records: whether each has at most 200 steps; nothing that was there is turned. Small contracts for the laws of chapter 17: few at one and at two records; Greatest of an invalid record, and out of range. The reference's Same of two records, and the law's none: whether they are equal; nothing that was there is turned. -/
import Derived.Test.YtkjndkeboeieoaaGreatDoorPkGaugeBack9
import Derived.Test.YtkjndkeboeieoaaGreatDoorPkGaugeBack11
import Derived.Test.YtkjndkeboeieoaaGreatDoorPkGaugeBack4
import Derived.Deep.RegionHeldLaw
import Derived.Deep.QuietTactic
import Derived.BigQuiet
import Derived.Test.YtkjndkeboeieoaaGreatDoorPkGaugeBack3
namespace Go.Proofs.YtkjndkeboeieoaaGreatDoor
open Go.RowKit

/-- the parts of a depth -/
def fnD (k : Nat) (d : Int) : List Int := if d = -1 then List.replicate k (-1) else shL d (List.replicate k 1)
/-- the parts of the first depths -/
def fnL (l : List Int) (k : Nat) : Nat → List Int | 0 => [] | i + 1 => fnL l k i ++ fnD k (l.getD i 0)
theorem shE_ones {k : Nat} {d : Int} (h1 : 1 ≤ k) (h2 : k ≤ 10000) (h3 : 0 ≤ d) (h4 : d ≤ 4194304) : shE d (List.replicate k 1) = 0 := by
  have hs : (List.replicate k (1 : Int)).sum = (k : Int) := by simp [List.sum_replicate_int]
  have hw : wB (List.replicate k (1 : Int)) = true := wB_iff.2 (fun i h => by simp)
  unfold shE
  rw [List.length_replicate, if_neg (by omega), if_neg (by omega), hw, if_neg (by simp), hs, if_neg (by omega), if_neg (by omega)]
theorem shL_ones_length {k : Nat} {d : Int} (h1 : 1 ≤ k) (h2 : k ≤ 10000) (h3 : 0 ≤ d) (h4 : d ≤ 4194304) : (shL d (List.replicate k 1)).length = k := by
  unfold shL
  rw [if_pos (shE_ones h1 h2 h3 h4), shK_length, List.length_replicate]
theorem fnD_length {k : Nat} {d : Int} (h1 : 1 ≤ k) (h2 : k ≤ 10000) (h3 : -1 ≤ d) (h4 : d ≤ 4194304) : (fnD k d).length = k := by
  unfold fnD
  split
  · simp
  · exact shL_ones_length h1 h2 (by omega) h4
theorem fnL_length {l : List Int} {k : Nat} (h1 : 1 ≤ k) (h2 : k ≤ 10000) (h : ∀ i, i < l.length → -1 ≤ l.getD i 0 ∧ l.getD i 0 ≤ 4194304) : ∀ i, i ≤ l.length → (fnL l k i).length = i * k
  | 0, _ => by simp [fnL]
  | i + 1, hi => by
    have b := h i (by omega)
    show (fnL l k i ++ fnD k (l.getD i 0)).length = _
    rw [List.length_append, fnL_length h1 h2 h i (by omega), fnD_length h1 h2 b.1 b.2, Nat.add_mul, Nat.one_mul]
theorem shL_bd {k : Nat} {d : Int} (h1 : 1 ≤ k) (h2 : k ≤ 10000) (h3 : 0 ≤ d) (h4 : d ≤ 4194304) {x : Int} (hx : x ∈ shL d (List.replicate k 1)) : 0 ≤ x ∧ x ≤ 1125899906842624 := by
  unfold shL at hx
  rw [if_pos (shE_ones h1 h2 h3 h4)] at hx
  obtain ⟨i, hi, rfl⟩ := List.mem_iff_getElem.1 hx
  have hs : (List.replicate k (1 : Int)).sum = (k : Int) := by simp [List.sum_replicate_int]
  exact shK_bd h3 (by omega) (by omega) (fun i h => by simp) (Int.le_refl _) i hi
theorem fnL_bd {l : List Int} {k : Nat} (h1 : 1 ≤ k) (h2 : k ≤ 10000) (h : ∀ i, i < l.length → -1 ≤ l.getD i 0 ∧ l.getD i 0 ≤ 4194304) : ∀ i, i ≤ l.length → ∀ x ∈ fnL l k i, -1 ≤ x ∧ x ≤ 1125899906842624
  | 0, _, x, hx => by simp [fnL] at hx
  | i + 1, hi, x, hx => by
    have b := h i (by omega)
    have hx' : x ∈ fnL l k i ++ fnD k (l.getD i 0) := hx
    rcases List.mem_append.1 hx' with hx | hx
    · exact fnL_bd h1 h2 h i (by omega) x hx
    · unfold fnD at hx
      split at hx
      · rw [List.eq_of_mem_replicate hx]; omega
      · have := shL_bd h1 h2 (by omega) b.2 hx
        omega
set_option maxRecDepth 100000 in
set_option maxHeartbeats 4000000 in
theorem finer_range (s : Ser) (a : SerA) (k : Nat) (w : World) (hs : SerSl w s a) (hv : vS s = true) (h1 : 1 ≤ k) (h2 : k ≤ 10000) (h3 : s.st % (k : Int) ≠ 0) :
    Calls Tryz.prog 18 #[s.val a, .int .i64 (k : Int)] w (SerPost Ser0 2 w) := by
  obtain ⟨fr, st, l⟩ := s
  obtain ⟨A, c⟩ := a
  have h3' : st % (k : Int) ≠ 0 := h3
  have V := hide (fun W (h : SerSl W ⟨fr, st, l⟩ ⟨A, c⟩) => gvalid_any ⟨fr, st, l⟩ ⟨A, c⟩ W h)
  rw [hv] at V
  have v := vS_iff.1 hv
  have v1 : 1 ≤ st ∧ st ≤ 86400 := v.st
  clear hv v h3
  have HS := hide hs
  have X := ((Own.start w).alloc #[.int .i64 fr, .int .i64 st, .slice A l.length c] 24).alloc #[.int .i64 0, .int .i64 0, .slice none 0 0] 24
  simp only [World.size_alloc] at X
  clear hs
  have hr := X.r2
  have m1 : st.tmod (k : Int) = st % (k : Int) := Int.tmod_eq_emod_of_nonneg (by omega)
  have b1 : 0 ≤ st % (k : Int) := Int.emod_nonneg _ (by omega)
  have b2 : st % (k : Int) < (k : Int) := Int.emod_lt_of_pos _ (by omega)
  have w1 : IntKind.i64.wrap (st.tmod (k : Int)) = st % (k : Int) := by rw [m1]; exact IntWalk.i64_in _ (by omega)
  generalize hm : st % (k : Int) = m at *
  have q2 : (m == 0) = false := by simpa using h3'
  have q3 : (m != 0) = true := by simpa using h3'
  have q4 : decide ((k : Int) < 1) = false := decide_eq_false (by omega)
  have q5 : ((k : Int) == 0) = false := by simp; omega
  have q6 : ¬ (k : Int) = 0 := by omega
  clear h3' hm b1 b2 v1
  show Calls Tryz.prog 18 #[.agg #[.int .i64 fr, .int .i64 st, .slice A l.length c], .int .i64 (k : Int)] w _
  go_enter Tryz.func18, Tryz.ntmps18
  go_wp2_with fail
  refine (V.out _ (HS.out.below X.1)).mono ?_
  rintro e w1 ⟨rfl, hb⟩
  replace X := X.to hb
  clear hb hr HS V
  have hr := X.r2
  go_wp2
  exact bodyPost_ret (v := .tuple #[.agg #[.int .i64 0, .int .i64 0, .slice none 0 0], .int .i64 2]) (by simp [results, Tryz.results18, hr, go_sem]) rfl (SerPost.err (by have HX := X.1; have hz := HX.size; go_grown))
set_option maxRecDepth 100000 in
set_option maxHeartbeats 4000000 in
theorem finer_in (s : Ser) (a : SerA) (k : Nat) (w : World) (hs : SerSl w s a) (hv : vS s = true) (h1 : 1 ≤ k) (h2 : k ≤ 10000) (h3 : s.st % (k : Int) = 0) (h4 : s.ds.length * k ≤ 10000) (h5 : 1 ≤ s.ds.length) :
    Calls Tryz.prog 18 #[s.val a, .int .i64 (k : Int)] w (SerPost ⟨s.fr, s.st / (k : Int), fnL s.ds k s.ds.length⟩ 0 w) := by
  obtain ⟨fr, st, l⟩ := s
  obtain ⟨A, c⟩ := a
  have h3' : st % (k : Int) = 0 := h3
  have V := hide (fun W (h : SerSl W ⟨fr, st, l⟩ ⟨A, c⟩) => gvalid_any ⟨fr, st, l⟩ ⟨A, c⟩ W h)
  rw [hv] at V
  have v := vS_iff.1 hv
  have v1 : 1 ≤ st ∧ st ≤ 86400 := v.st
  have vf : -68719476736 ≤ fr ∧ fr ≤ 68719476736 := v.fr
  have HV := hide v.ok
  have le : l.length ≤ 10000 := v.le
  have lk : l.length * k ≤ 10000 := h4
  have l1 : 1 ≤ l.length := h5
  have LK := hide (fun i (hi : i ≤ l.length) => (by
    refine ⟨fnL_length h1 h2 v.ok i hi, ?_⟩
    have : i * k ≤ l.length * k := Nat.mul_le_mul_right k hi
    omega : (fnL l k i).length = i * k ∧ i * k ≤ 10000))
  clear hv v h3 h4 h5
  obtain ⟨b, off, rfl, hbl, hat⟩ := hs.1.atg (by show 0 < l.length; omega)
  have HS := hide hs
  have HAT := hide hat
  have X := ((Own.start w).alloc #[.int .i64 fr, .int .i64 st, .slice (some ⟨b, off, none⟩) l.length c] 24).alloc #[.int .i64 0, .int .i64 0, .slice none 0 0] 24
  simp only [World.size_alloc] at X
  clear hs hat
  have hr := X.r2
  have m1 : st.tmod (k : Int) = st % (k : Int) := Int.tmod_eq_emod_of_nonneg (by omega)
  have m2 : st.tdiv (k : Int) = st / (k : Int) := Int.tdiv_eq_ediv_of_nonneg (by omega)
  have b3 : 0 ≤ st / (k : Int) := Int.ediv_nonneg (by omega) (by omega)
  have b4 : st / (k : Int) ≤ st := Int.ediv_le_self _ (by omega)
  obtain ⟨q, hq⟩ : ∃ q, q = st / (k : Int) := ⟨_, rfl⟩
  have qb : 0 ≤ q ∧ q ≤ 86400 := by rw [hq]; exact ⟨b3, Int.le_trans b4 v1.2⟩
  have w1 : IntKind.i64.wrap (st.tmod (k : Int)) = 0 := by rw [m1, h3']; decide
  have w2 : IntKind.i64.wrap (st.tdiv (k : Int)) = q := by rw [m2, ← hq]; exact IntWalk.i64_in _ (by omega)
  have m3 : st.tmod (k : Int) = 0 := m1.trans h3'
  have m4 : st.tdiv (k : Int) = q := m2.trans hq.symm
  have w0 : IntKind.i64.wrap q = q := IntWalk.i64_in _ (by omega)
  have p0 : ((l.length : Int) * (k : Int)) = ((l.length * k : Nat) : Int) := by rw [Int.natCast_mul]
  have lkz : ((l.length * k : Nat) : Int) ≤ 10000 := by omega
  have lkn : (0 : Int) ≤ ((l.length * k : Nat) : Int) := by omega
  have w3 : IntKind.i64.wrap ((l.length : Int) * (k : Int)) = ((l.length * k : Nat) : Int) := by rw [p0]; exact IntWalk.i64_in _ ⟨by omega, by omega⟩
  have q3 : decide ((10000 : Int) < ((l.length * k : Nat) : Int)) = false := decide_eq_false (by omega)
  have q4 : decide ((k : Int) < 1) = false := decide_eq_false (by omega)
  have q5 : ((k : Int) == 0) = false := by simp; omega
  have q6 : ¬ (k : Int) = 0 := by omega
  have q7 : ((l.length : Int) == 0) = false := beq_eq_false_iff_ne.2 (by omega)
  have q8 : ¬ (l.length : Int) = 0 := by omega
  have QB := hide (And.intro (And.intro b3 b4) (And.intro v1 vf))
  generalize hN : l.length * k = N at *
  have HN := hide hN
  rw [← hq]
  have HQ := hide hq
  clear h3' m1 m2 b3 b4 v1 vf hN hq lk p0 lkz lkn
  show Calls Tryz.prog 18 #[.agg #[.int .i64 fr, .int .i64 st, .slice (some ⟨b, off, none⟩) l.length c], .int .i64 (k : Int)] w (SerPost ⟨fr, q, fnL l k l.length⟩ 0 w)
  go_enter Tryz.func18, Tryz.ntmps18
  go_wp2_with fail
  refine (V.out _ (HS.out.below X.1)).mono ?_
  rintro e w1 ⟨rfl, hb⟩
  replace X := X.to hb
  clear hb hr HS V
  have hr := X.r2
  go_wp2_with fail
  go_region
  have lt1 : w.heap.size + 1 < w1.heap.size := X.r1.2.2
  replace X := (X.alloc #[.int .i64 fr, .int .i64 q, .slice none 0 0] 24).drew
  have hoW : w1.heap.size < ((w1.alloc (Obj.cells #[Value.int IntKind.i64 fr, Value.int IntKind.i64 q, Value.slice none 0 0] 24)).drew).heap.size := X.r1.2.2
  generalize hW : (w1.alloc (Obj.cells #[Value.int IntKind.i64 fr, Value.int IntKind.i64 q, Value.slice none 0 0] 24)).drew = W at *
  clear hW hr
  have hr := X.r3
  have C1 : (W.alloc (.cells #[.int .i64 1] 3)).cell? ⟨W.heap.size, 0, none⟩ = some (.int .i64 1) := by
    have := ((Own.start W).alloc #[.int .i64 1] 3).r1.1 0
    exact this
  have RP := hide (repeat_any W.heap.size 0 1 k 1 _ h1 h2 C1)
  clear C1
  go_wp2_with fail
  refine RP.out.mono ?_
  rintro e w2 ⟨hb, g, rfl, hg, hh⟩
  replace X := ((X.alloc #[.int .i64 1] 3).to hb).tail
  have hg2 : W.heap.size < g := by have := hg; simp at this; omega
  have gl : g < w2.heap.size := (Array.getElem?_eq_some_iff.1 hh).1
  have hs2 : W.heap.size < w2.heap.size := by omega
  have G0 : Gat w w2 w2.heap.size w1.heap.size fr q [(w.heap.size + 1, 24, #[.int .i64 0, .int .i64 0, .slice none 0 0]), (w.heap.size, 24, #[.int .i64 fr, .int .i64 st, .slice (some ⟨b, off, none⟩) l.length c])] [(g, .cells (List.replicate k (Value.int .i64 1)).toArray 3 (0, 0))] (.slice none 0 0) (0 * k) (fnL l k 0) := by
    refine ⟨X, ?_, ?_, ⟨Nat.le_refl _, X.1.size, by omega⟩, ?_, ?_⟩
    · rw [Nat.zero_mul]; exact World.ownsRow_nil _ _ _ _
    · intro p hp
      simp only [List.mem_singleton] at hp
      subst hp
      exact ⟨hh, gl, by show g ≠ w1.heap.size; omega⟩
    · intro x hx
      simp only [List.mem_cons, List.not_mem_nil, or_false] at hx
      rcases hx with rfl | rfl
      · show (3 : TypeId) ≠ 24; decide
      · show (3 : TypeId) ≠ 24; decide
    · intro x hx
      simp only [List.mem_cons, List.not_mem_nil, or_false] at hx
      rcases hx with rfl | rfl
      · show w.heap.size + 1 ≠ w1.heap.size; omega
      · show w.heap.size ≠ w1.heap.size; omega
  have GH := hide G0
  clear hr RP hb hg hh hg2 gl hs2 G0 lt1 hoW
  have hr := X.r3
  go_wp2
  clear hr X
  generalize hB2 : w2.heap.size = B2 at *
  generalize hoo : w1.heap.size = o at *
  go_loopw [9, 10, 11, 54] (fun v9 v10 v11 v54 wr => ∃ (i : Nat) (v : Value), i ≤ l.length ∧ v54 = .int .i64 (i : Int) ∧ Hid (Gat w wr B2 o fr q [(w.heap.size + 1, 24, #[.int .i64 0, .int .i64 0, .slice none 0 0]), (w.heap.size, 24, #[.int .i64 fr, .int .i64 st, .slice (some ⟨b, off, none⟩) l.length c])] [(g, .cells (List.replicate k (Value.int .i64 1)).toArray 3 (0, 0))] v (i * k) (fnL l k i))) (fun _ _ _ v54 _ => l.length - (intOf v54).toNat)
  case atStart => exact ⟨0, .slice none 0 0, by omega, rfl, GH⟩
  case round =>
    obtain ⟨i, v, hi, rfl, Y⟩ := hrel
    by_cases hlt : i < l.length
    · have c0 := (Y.out.own.1.cell (p := ⟨b, off + i, none⟩) hbl).trans (HAT.out i hlt)
      have d0 := HV.out i hlt
      have E1 : Hid (fnL l k (i + 1) = fnL l k i ++ fnD k (l.getD i 0)) := hide rfl
      have lk0 := LK.out i (by omega)
      have lk1 := LK.out (i + 1) (by omega)
      have dl := fnD_length h1 h2 d0.1 d0.2
      have hr := Y.out.own.r3
      generalize hd : l.getD i 0 = d at *
      clear hd
      have e1 : (i + 1) * k = i * k + k := by rw [Nat.add_mul, Nat.one_mul]
      rw [e1] at lk1
      generalize hL0 : fnL l k i = L0 at *
      generalize hM : i * k = M at *
      clear hL0 hM
      obtain ⟨j0, hj0, hz0, hz1, hz2⟩ := info_parts int_info17
      by_cases dm : d = -1
      · subst dm
        have E2 : Hid (fnL l k (i + 1) = L0 ++ List.replicate k (-1)) := hide (E1.out.trans (by rw [fnD, if_pos rfl]))
        clear E1 dl d0
        have C1 : (wr.alloc (.cells #[.int .i64 (-1)] 3)).drew.cell? ⟨wr.heap.size, 0, none⟩ = some (.int .i64 (-1)) := ((Own.start wr).alloc #[.int .i64 (-1)] 3).r1.1 0
        have RP := hide (repeat_any wr.heap.size 0 1 k (-1) _ h1 h2 C1)
        clear C1
        go_wp2_with fail
        have f0 : 0 < k := by omega
        have f1 : M + k ≤ maxLen := by unfold maxLen; omega
        have f2 : (M + k) * 8 ≤ 140737488355328 := by omega
        have f4 : ∀ u ∈ List.replicate k (Value.int .i64 (-1)), u.oneCell' = true := by intro u hu; rw [List.eq_of_mem_replicate hu]; rfl
        have f5 : (List.replicate k (Value.int .i64 (-1))).length = k * 1 := by simp
        go_region_law
          (first
            | (go_simp; go_at_call 46; refine RP.out.mono ?_; rintro e w3 ⟨hb3, g3, rfl, hg3, hh3⟩; have Y3 := hide (((Y.out.alloc (.cells #[.int .i64 (-1)] 3)).drew).to hb3); have hr3 := Y3.out.own.r3)
            | (refine step_append_lies _ (by rfl) _ _ _ (by rfl) B2 3 j0 _ 1 8 Tryz.underlying22 hj0 hz0 hz1 hz2 rfl (by omega) _ M (L0.map (Value.int .i64)) (by rfl) Y3.out.row ⟨g3, 0, none⟩ k k (List.replicate k (.int .i64 (-1))) (by rfl) f5 (World.news_of_block hh3) f4 f0 f1 f2 Y3.out.b2.1 _ (by rfl) ?_; intro gg cp w4 hown4 hgrow hat4 hlt4; have hr4 := (Y3.out.grown hgrow).r3))
        all_goals
          have Y5 := hide (Y3.out.app (L4 := L0 ++ List.replicate k (-1)) (by rw [List.map_append, List.map_replicate]; exact hown4) hgrow)
          clear Y3 hown4 hgrow hr4 hr3 hh3 hb3
          go_wp2
          go_roundw
          case rel => exact ⟨i + 1, _, by omega, by go_num, by rw [E2.out, e1]; exact Y5⟩
          case measure => simp [intOf]; omega
      · have E2 : Hid (fnL l k (i + 1) = L0 ++ shL d (List.replicate k 1)) := hide (E1.out.trans (by rw [fnD, if_neg dm]))
        have dm1 : (d == -1) = false := by simpa using dm
        have se := shE_ones h1 h2 (show 0 ≤ d by omega) d0.2
        have sl := shL_ones_length h1 h2 (show 0 ≤ d by omega) d0.2
        have ON : IntSl wr (some ⟨g, 0, none⟩) (List.replicate k 1) := by
          obtain ⟨hh, hh2⟩ := Y.out.keep _ (List.mem_singleton.2 rfl)
          refine ⟨⟨by rw [List.length_replicate]; omega, fun i hi => by simp⟩, fun _ => ⟨g, 0, rfl, (Array.getElem?_eq_some_iff.1 hh).1, fun i hi => ?_⟩⟩
          have hi' : i < k := by simpa using hi
          simp [World.cell?, hh, hi']
        have SH := share_any d (List.replicate k 1) (some ⟨g, 0, none⟩) k wr ON
        rw [List.length_replicate] at SH
        have SHH := hide SH
        clear E1 dl d0 dm SH ON
        go_wp2_with fail
        refine SHH.out.mono ?_
        rintro e w3 ⟨hb3, A3, c3, rfl, hsl3, hfr3, hcap3⟩
        have Y3 := hide (Y.out.to hb3)
        rw [se, sl]
        generalize shL d (List.replicate k 1) = P at *
        obtain ⟨b3, o3, rfl, hb3l, hat3⟩ := hsl3.2 (by omega)
        have f0 : 0 < k := by omega
        have f1 : M + k ≤ maxLen := by unfold maxLen; omega
        have f2 : (M + k) * 8 ≤ 140737488355328 := by omega
        have f4 : ∀ u ∈ P.map (Value.int .i64), u.oneCell' = true := by intro u hu; obtain ⟨x, _, rfl⟩ := List.mem_map.1 hu; rfl
        have f5 : (P.map (Value.int .i64)).length = k * 1 := by simp [sl]
        have f6 : ∀ (j : Nat) u, (P.map (Value.int .i64))[j]? = some u → w3.cell? ((⟨b3, o3, none⟩ : Addr).add j) = some u := fun j u hu => by
          have hj : j < P.length := by have := (List.getElem?_eq_some_iff.1 hu).1; simpa using this
          rw [show (⟨b3, o3, none⟩ : Addr).add j = ⟨b3, o3 + j, none⟩ by unfold Addr.add; split <;> simp_all, hat3 j hj]
          simpa [hj] using hu
        have FH := hide f6
        have hr3 := Y3.out.own.r3
        clear hb3 hsl3 hfr3 hcap3 hat3 SHH se f6
        go_wp2_with (at_builtin; refine wpList_append_lies _ rfl _ _ 22 rfl B2 3 j0 (.int .i64 0) 1 8 Tryz.underlying22 hj0 hz0 hz1 hz2 rfl (by decide) _ M (L0.map (Value.int .i64)) rfl Y3.out.row ⟨b3, o3, none⟩ k c3 (P.map (Value.int .i64)) rfl f5 FH.out f4 f0 f1 f2 Y3.out.b2.1 w3.heap.size rfl ?_; intro gg cp w4 hown4 hgrow hat4 hlt4; have hr4 := (Y3.out.grown hgrow).r3)
        have Y5 := hide (Y3.out.app (L4 := L0 ++ P) (by rw [List.map_append]; exact hown4) hgrow)
        clear Y3 hown4 hgrow hr4 hr3
        go_roundw
        case rel => exact ⟨i + 1, _, by omega, by go_num, by rw [E2.out, e1]; exact Y5⟩
        case measure => simp [intOf]; omega
    · obtain rfl : i = l.length := by omega
      have lk0 := LK.out l.length (by omega)
      have bd := fnL_bd h1 h2 HV.out l.length (by omega)
      obtain ⟨g', cp, rfl⟩ := row_form Y.out.row (Nat.mul_pos l1 h1)
      have PO := hide (fun x y z => Y.out.post (rb := w.heap.size + 1) (List.mem_cons_self ..) (by omega) x y z (fun u hu => by have := bd u hu; omega) (by omega) (by have := QB.out.2.2; omega) (by omega))
      have hr := Y.out.own.r3
      clear bd lk0
      go_wp2
      refine bodyPost_ret (v := .tuple #[.agg #[.int .i64 fr, .int .i64 q, .slice (some ⟨g', 0, none⟩) (l.length * k) cp], .int .i64 0]) ?_ rfl ?_
      · simp [results, Tryz.results18, hr, go_sem]
      · exact PO.out _ _ _
end Go.Proofs.YtkjndkeboeieoaaGreatDoor

namespace Go.Proofs.YtkjndkeboeieoaaGreatDoor
open Go.RowKit

theorem span_info17 : (Tryz.prog.info? 51).map (fun i => (i.zero, i.size, i.bytes)) = some (some (.agg #[.int .i64 0, .int .i64 0]), 2, 16) := by kernel_rfl
/-- a slice of spans that reads as a list of pairs -/
def PairSl (w : World) (A : Option Addr) (l : List (Int × Int)) : Prop :=
  l.length ≤ maxLen ∧ (0 < l.length → ∃ b off, A = some ⟨b, off, none⟩ ∧ b < w.heap.size ∧ ∀ i (h : i < l.length), w.cell? ⟨b, off + i * 2, none⟩ = some (.int .i64 l[i].1) ∧ w.cell? ⟨b, off + i * 2 + 1, none⟩ = some (.int .i64 l[i].2))
theorem PairSl.below {w w' : World} {A : Option Addr} {l : List (Int × Int)} (h : PairSl w A l) (hb : Below w.heap.size w w') : PairSl w' A l :=
  ⟨h.1, fun hl => by
    obtain ⟨b, off, e, hlt, hat⟩ := h.2 hl
    exact ⟨b, off, e, Nat.lt_of_lt_of_le hlt hb.size, fun i hi => ⟨(hb.cell (p := ⟨b, off + i * 2, none⟩) hlt).trans (hat i hi).1, (hb.cell (p := ⟨b, off + i * 2 + 1, none⟩) hlt).trans (hat i hi).2⟩⟩⟩
theorem PairSl.nil (w : World) (A : Option Addr) : PairSl w A [] := ⟨by simp, fun h => by simp at h⟩
/-- a row of the call's own that holds spans, read as a slice -/
theorem PairSl.of_row {w : World} {base : Nat} {e : TypeId} {v : Value} {n : Nat} {l : List (Int × Int)} (h : w.ownsRow base e 2 v n (flatP l)) (hb : l.length ≤ maxLen) : ∃ A c, v = .slice A l.length c ∧ PairSl w A l := by
  have hn : l.length = n := by have := h.1; rw [flatP_length] at this; omega
  rcases h.2 with ⟨rfl, h0⟩ | ⟨g, cap, cur, rfl, hg, hcell, hnc, _, hsz, htake⟩
  · rw [h0] at hn
    have : l = [] := List.eq_nil_of_length_eq_zero hn
    subst this
    exact ⟨none, 0, rfl, PairSl.nil w none⟩
  · subst hn
    refine ⟨some ⟨g, 0, none⟩, cap, rfl, hb, fun _ => ⟨g, 0, rfl, (Array.getElem?_eq_some_iff.1 hcell).1, fun i hi => ?_⟩⟩
    obtain ⟨k1, k2⟩ := flatP_at l i hi
    have c1 := h.cells (g := g) rfl (i * 2) _ k1
    have c2 := h.cells (g := g) rfl (i * 2 + 1) _ k2
    have ea : ∀ j, (⟨g, 0, none⟩ : Addr).add j = ⟨g, 0 + j, none⟩ := fun j => by unfold Addr.add; split <;> simp_all
    rw [ea] at c1 c2
    exact ⟨c1, c2⟩
/-- a list of spans, or an error -/
def GapPost (l : List (Int × Int)) (er : Int) (w : World) (e : Ending) (w' : World) : Prop :=
  Below w.heap.size w w' ∧ ∃ (A : Option Addr) (cap : Nat), e = .returned (.tuple #[.slice A l.length cap, .int .i64 er]) ∧ PairSl w' A l
theorem GapPost.err {er : Int} {w w' : World} (hb : Below w.heap.size w w') : GapPost [] er w (.returned (.tuple #[.slice none 0 0, .int .i64 er])) w' := ⟨hb, none, 0, rfl, PairSl.nil _ _⟩
set_option maxHeartbeats 1000000 in
theorem gaps_bad (s : Ser) (a : SerA) (w : World) (hs : SerSl w s a) (hv : vS s = false) : Calls Tryz.prog 15 #[s.val a] w (GapPost [] 1 w) := by
  have V := hide (fun W (h : SerSl W s a) => gvalid_any s a W h)
  rw [hv] at V
  have HS := hide hs
  have X := (Own.start w).alloc (s.cells a) 24
  clear hs hv
  have hr := X.r1
  go_enter Tryz.func15, Tryz.ntmps15
  go_wp2_with fail
  refine (V.out _ (HS.out.below X.1)).mono ?_
  rintro e w1 ⟨rfl, hb⟩
  replace X := X.to hb
  clear hb hr
  go_wp2
  exact bodyPost_ret (v := .tuple #[.slice none 0 0, .int .i64 1]) (by simp [results, Tryz.results15, go_sem]) rfl (GapPost.err X.1)
set_option maxRecDepth 100000 in
set_option maxHeartbeats 4000000 in
theorem gaps_in (s : Ser) (a : SerA) (w : World) (hs : SerSl w s a) (hv : vS s = true) : Calls Tryz.prog 15 #[s.val a] w (GapPost (gpL s.ds s.ds.length) 0 w) := by
  obtain ⟨fr, st, l⟩ := s
  obtain ⟨A, c⟩ := a
  have V := hide (fun W (h : SerSl W ⟨fr, st, l⟩ ⟨A, c⟩) => gvalid_any ⟨fr, st, l⟩ ⟨A, c⟩ W h)
  rw [hv] at V
  have v := vS_iff.1 hv
  have le : l.length ≤ 10000 := v.le
  clear hv v
  have HS := hide hs
  have X := (Own.start w).alloc #[.int .i64 fr, .int .i64 st, .slice A l.length c] 24
  clear hs
  have hr := X.r1
  obtain ⟨i0, hi0, hz0, hz1, hz2⟩ := info_parts span_info17
  show Calls Tryz.prog 15 #[.agg #[.int .i64 fr, .int .i64 st, .slice A l.length c]] w (GapPost (gpL l l.length) 0 w)
  go_enter Tryz.func15, Tryz.ntmps15
  go_wp2_with fail
  refine (V.out _ (HS.out.below X.1)).mono ?_
  rintro e w1 ⟨rfl, hb⟩
  replace X := X.to hb
  have HI := hide HS.out.1
  clear hb hr HS V
  have hr := X.r1
  go_wp2
  have XH := hide (And.intro X (World.ownsRow_nil w1 w.heap.size 51 2))
  clear X hr
  go_loopw [4, 5, 6, 13] (fun v4 v5 v6 v13 wr => ∃ i : Nat, i ≤ l.length ∧ v13 = .int .i64 (i : Int) ∧ Hid (Own w wr [(w.heap.size, 24, #[.int .i64 fr, .int .i64 st, .slice A l.length c])] ∧ wr.ownsRow w.heap.size 51 2 v4 (gpL l i).length (flatP (gpL l i)))) (fun _ _ _ v13 _ => l.length - (intOf v13).toNat)
  case atStart => exact ⟨0, by omega, rfl, XH⟩
  case round =>
    obtain ⟨i, hi, rfl, Y⟩ := hrel
    by_cases hlt : i < l.length
    · obtain ⟨b, off, rfl, hbl, hat⟩ := (HI.out.below Y.out.1.1).atg (show 0 < l.length by omega)
      have c0 := hat i hlt
      have hr := Y.out.1.r1
      have g0 : (0 : Int) ≤ (i : Int) := by omega
      have g1 : (i : Int) < (l.length : Int) := by omega
      have GP : Hid (gpL l (i + 1) = if l.getD i 0 = -1 then (if 0 < i ∧ l.getD (i - 1) 0 = -1 then setHi (gpL l i) i else gpL l i ++ [((i : Int), (i : Int))]) else gpL l i) := hide rfl
      have GL := hide (gpL_last l i)
      by_cases q : l.getD i 0 = -1
      rotate_left
      · have E := hide (GP.out.trans (if_neg q))
        have q1 : (l.getD i 0 != -1) = true := by simpa using q
        clear hat GP q
        generalize l.getD i 0 = d at *
        go_wp2
        go_roundw
        case rel => exact ⟨i + 1, by omega, by go_num, by rw [E.out]; exact Y⟩
        case measure => simp [intOf]; omega
      · have GP2 := hide (GP.out.trans (if_pos q))
        rw [q] at c0
        clear GP q
        by_cases i1 : 0 < i
        rotate_left
        · have E := hide (GP2.out.trans (if_neg (fun h => i1 h.1)))
          have g4 : decide ((0 : Int) < (i : Int)) = false := decide_eq_false (by omega)
          have g5 : ¬ (0 : Int) < (i : Int) := by omega
          have GL2 := GL.out.2.2.1
          clear i1 hat GP2 GL
          generalize gpL l i = L at *
          go_wp2_with (at_builtin; refine wpList_append_own _ rfl _ _ 43 rfl w.heap.size 51 i0 (.agg #[.int .i64 0, .int .i64 0]) 2 16 Tryz.underlying43 hi0 hz0 hz1 hz2 rfl (by decide) _ L.length (flatP L) rfl (Y.out.2.alloc (.cells #[.int .i64 (i : Int), .int .i64 (i : Int)] 51)) ⟨wr.heap.size, 0, none⟩ 1 1 [.int .i64 (i : Int), .int .i64 (i : Int)] rfl rfl (World.news_of_block (cs := #[.int .i64 (i : Int), .int .i64 (i : Int)]) (t := 51) (fr := (0, 0)) (heap_alloc_new wr _)) (by simp [Value.oneCell']) (by unfold maxLen; have := GL2; omega) (by have := GL2; omega) (by have := Y.out.1.1.size; simp; omega) ?_; intro v4 w4 hown4 hgrow _)
          have XA := Y.out.1.alloc #[.int .i64 (i : Int), .int .i64 (i : Int)] 51
          have Y5 := XA.tail.grown (Y.out.2.alloc (.cells #[.int .i64 (i : Int), .int .i64 (i : Int)] 51)) hgrow (by intro y hy; simp at hy; subst hy; show 51 ≠ 24; decide)
          have B4 := hide (And.intro Y5 hown4)
          clear Y5 XA hown4 hgrow
          go_roundw
          case rel => exact ⟨i + 1, by omega, by go_num, by rw [E.out, flatP_append, List.length_append]; exact B4⟩
          case measure => simp [intOf]; omega
        · have c1 := hat (i - 1) (by omega)
          have s1 : IntKind.i64.wrap ((i : Int) - 1) = ((i - 1 : Nat) : Int) := (IntWalk.i64_in _ (by omega)).trans (by omega)
          have g2 : (0 : Int) ≤ ((i - 1 : Nat) : Int) := by omega
          have g3 : ((i - 1 : Nat) : Int) < (l.length : Int) := by omega
          have g4 : decide ((0 : Int) < (i : Int)) = true := decide_eq_true (by omega)
          have I1 := hide i1
          clear hat i1
          by_cases q : l.getD (i - 1) 0 = -1
          · have E := hide (GP2.out.trans (if_pos ⟨I1.out, q⟩))
            obtain ⟨n1, n2⟩ := GL.out.1 I1.out q
            rw [q] at c1
            have n3 := List.length_pos_iff.2 n1
            obtain ⟨g, cap, rfl⟩ := row_form Y.out.2 n3
            have EC := hide (flatP_setHi n1 (i : Int))
            have EL := hide (setHi_length n1 (i : Int))
            have GL2 := GL.out.2.2.1
            have ne := hide n1
            clear q n1 n2 GL GP2
            generalize gpL l i = L at *
            obtain ⟨y, cz⟩ : ∃ y, wr.cell? ⟨g, (L.length - 1) * 2 + 1, none⟩ = some (.int .i64 y) := ⟨_, (Y.out.2.cellAt ((L.length - 1) * 2 + 1) (by omega)).trans (flatP_at L (L.length - 1) (by omega)).2⟩
            have fz := Y.out.2.frozenAt ((L.length - 1) * 2 + 1)
            have s2 : IntKind.i64.wrap ((L.length : Int) - 1) = ((L.length - 1 : Nat) : Int) := (IntWalk.i64_in _ (by omega)).trans (by omega)
            have h2 : (0 : Int) ≤ ((L.length - 1 : Nat) : Int) := by omega
            have h3 : ((L.length - 1 : Nat) : Int) < (L.length : Int) := by omega
            have ST := Y.out.2.stored ((L.length - 1) * 2 + 1) (.int .i64 (i : Int))
            have ST2 := hide (And.intro (Y.out.1.grown Y.out.2 ST.2 (by intro y hy; simp at hy; subst hy; show 51 ≠ 24; decide)) ST.1)
            have HL := hide GL2
            clear ST GL2 n3
            generalize hj : L.length - 1 = j at *
            have HJ := hide hj
            clear hj
            go_wp2
            go_roundw
            case rel => exact ⟨i + 1, by omega, by go_num, by rw [E.out, EL.out, ← EC.out]; exact ST2⟩
            case measure => simp [intOf]; omega
          · have E := hide (GP2.out.trans (if_neg (fun h => q h.2)))
            have q1 : (l.getD (i - 1) 0 == -1) = false := by simpa using q
            have GL2 := GL.out.2.2.1
            clear GL GP2 q
            generalize gpL l i = L at *
            generalize l.getD (i - 1) 0 = d1 at *
            go_wp2_with (at_builtin; refine wpList_append_own _ rfl _ _ 43 rfl w.heap.size 51 i0 (.agg #[.int .i64 0, .int .i64 0]) 2 16 Tryz.underlying43 hi0 hz0 hz1 hz2 rfl (by decide) _ L.length (flatP L) rfl (Y.out.2.alloc (.cells #[.int .i64 (i : Int), .int .i64 (i : Int)] 51)) ⟨wr.heap.size, 0, none⟩ 1 1 [.int .i64 (i : Int), .int .i64 (i : Int)] rfl rfl (World.news_of_block (cs := #[.int .i64 (i : Int), .int .i64 (i : Int)]) (t := 51) (fr := (0, 0)) (heap_alloc_new wr _)) (by simp [Value.oneCell']) (by unfold maxLen; have := GL2; omega) (by have := GL2; omega) (by have := Y.out.1.1.size; simp; omega) ?_; intro v4 w4 hown4 hgrow _)
            have XA := Y.out.1.alloc #[.int .i64 (i : Int), .int .i64 (i : Int)] 51
            have Y5 := XA.tail.grown (Y.out.2.alloc (.cells #[.int .i64 (i : Int), .int .i64 (i : Int)] 51)) hgrow (by intro y hy; simp at hy; subst hy; show 51 ≠ 24; decide)
            have B4 := hide (And.intro Y5 hown4)
            clear Y5 XA hown4 hgrow
            go_roundw
            case rel => exact ⟨i + 1, by omega, by go_num, by rw [E.out, flatP_append, List.length_append]; exact B4⟩
            case measure => simp [intOf]; omega
    · have e : i = l.length := by omega
      subst e
      have gl := (gpL_last l l.length).2.2.1
      obtain ⟨A', cap, rfl, ps⟩ := PairSl.of_row Y.out.2 (by unfold maxLen; omega)
      have LH := hide ps
      clear ps gl
      go_wp2
      exact bodyPost_ret (v := .tuple #[.slice A' (gpL l l.length).length cap, .int .i64 0]) (by simp [results, Tryz.results15, go_sem]) rfl ⟨Y.out.1.1, _, _, rfl, LH.out⟩
end Go.Proofs.YtkjndkeboeieoaaGreatDoor

namespace Go.Proofs.YtkjndkeboeieoaaGreatDoor
open Go.RowKit

set_option maxRecDepth 100000 in
set_option maxHeartbeats 1000000 in
theorem equalP_any (l m : List (Int × Int)) (A B : Option Addr) (cap cap' : Nat) (w : World) (hl : PairSl w A l) (hm : PairSl w B m) (r : Bool) (hr : (r = true ↔ l = m)) :
    Calls Tryz.prog 19 #[.slice A l.length cap, .slice B m.length cap'] w fun e w' => e = .returned (.bool r) ∧ ∃ d, w' = w.drewN d := by
  have hlen : l.length ≤ 9223372036854775807 := by have := hl.1; unfold maxLen at this; omega
  have hlen' : m.length ≤ 9223372036854775807 := by have := hm.1; unfold maxLen at this; omega
  have H := hide hl
  have H' := hide hm
  have HR := hide hr
  clear hl hm hr
  by_cases hn : l.length = m.length
  case neg =>
    have q : ((l.length : Int) == (m.length : Int)) = false := by simp; omega
    have q' : ((l.length : Int) != (m.length : Int)) = true := by simp; omega
    have hv : r = false := by
      cases r
      · rfl
      · exact absurd (by rw [HR.out.1 rfl]) hn
    subst hv
    clear hn
    go_enter Tryz.func19, Tryz.ntmps19
    go_wp2
    go_ret
    exact ⟨rfl, 0, by simp [World.drewN_zero]⟩
  have q : ((l.length : Int) == (m.length : Int)) = true := by simp; omega
  have q' : ((l.length : Int) != (m.length : Int)) = false := by simp; omega
  have HN := hide hn
  clear hn
  go_enter Tryz.func19, Tryz.ntmps19
  go_wp2
  go_loopw [13] (fun v wr => ∃ k : Nat, k ≤ l.length ∧ v = .int .i64 k ∧ (∃ d, wr = w.drewN d) ∧ Hid (∀ i (h : i < l.length) (h' : i < m.length), i < k → l[i] = m[i])) (fun v _ => l.length - (intOf v).toNat)
  case atStart => exact ⟨0, Nat.zero_le _, rfl, ⟨0, by simp [World.drewN_zero]⟩, hide (fun _ _ _ h => by omega)⟩
  case round =>
    obtain ⟨k, hk, rfl, ⟨d, rfl⟩, hno⟩ := hrel
    by_cases hlt : k < l.length
    · have hlt' : k < m.length := by rw [← HN.out]; exact hlt
      obtain ⟨b, off, rfl, hbl, hat⟩ := H.out.2 (by omega)
      obtain ⟨b', off', rfl, hbl', hat'⟩ := H'.out.2 (by omega)
      obtain ⟨c0, c1⟩ := hat k hlt
      obtain ⟨d0, d1⟩ := hat' k hlt'
      have g0 : (0 : Int) ≤ (k : Int) := by omega
      have g1 : (k : Int) < (l.length : Int) := by omega
      have g2 : (k : Int) < (m.length : Int) := by omega
      clear hat hat' q q'
      by_cases e : l[k] = m[k]
      · have HNO := hide (fun i (h : i < l.length) (h' : i < m.length) (hik : i < k + 1) => (by
          by_cases e' : i = k
          · subst e'; exact e
          · exact hno.out i h h' (by omega) : l[i] = m[i]))
        have e1 : (l[k].1 == m[k].1) = true := by rw [e]; simp
        have e2 : (l[k].2 == m[k].2) = true := by rw [e]; simp
        rw [e] at c0 c1 e1 e2
        clear e
        generalize m[k] = y at *
        go_wp2
        go_quiet (fail)
        go_wp2
        go_roundw
        case rel => exact ⟨k + 1, by omega, by go_num, ⟨d + nq, by first | rfl | (rw [World.drewN_add]) | simp⟩, HNO⟩
        case measure => simp [intOf]; omega
      · have hv : r = false := by
          cases r
          · rfl
          · exact absurd (by have := HR.out.1 rfl; subst this; rfl) e
        subst hv
        have D : (l[k].1 == m[k].1) = false ∨ ((l[k].1 == m[k].1) = true ∧ (l[k].2 == m[k].2) = false) := by
          by_cases h1 : l[k].1 = m[k].1
          · exact .inr ⟨by simpa using h1, by simpa using fun h2 => e (Prod.ext h1 h2)⟩
          · exact .inl (by simpa using h1)
        clear e
        generalize l[k] = x at *
        generalize m[k] = y at *
        rcases D with e1 | ⟨e1, e2⟩
        all_goals
          go_wp2
          go_quiet (fail)
          go_wp2
          go_ret
          exact ⟨rfl, d + nq, by first | rfl | (rw [World.drewN_add]) | simp⟩
    · have hv : r = true := HR.out.2 (List.ext_getElem HN.out (fun i h h' => hno.out i h h' (by omega)))
      subst hv
      clear q q'
      go_wp2
      go_ret
      exact ⟨rfl, d, rfl⟩
end Go.Proofs.YtkjndkeboeieoaaGreatDoor

namespace Go.Proofs.YtkjndkeboeieoaaGreatDoor
open Go.RowKit

abbrev exA : Ser := ⟨0, 60, [5, -1, 7, 2]⟩
abbrev exB : Ser := ⟨0, 60, [5]⟩
theorem exA_v : vS exA = true := by decide
theorem exB_v : vS exB = true := by decide
theorem ex_ps : ps exA.ds 4 = 14 := by decide
theorem ex_ms : ms exA.ds 4 = 1 := by decide
theorem ex_gp : gpL exA.ds 4 = [(1, 1)] := by decide
theorem ex_gm : gm exA.ds 2 4 = 9 := by decide
theorem ex_gf : gf exA.ds 2 4 = 2 := by decide
theorem ex_ch : chL exA.ds 2 2 = [-1, 9] := by decide
theorem ex_fn : fnL exB.ds 3 1 = [1, 2, 2] := by decide
theorem ex_rowsA {w : World} {b : Nat} (h : Blk w b 3 #[.int .i64 5, .int .i64 (-1), .int .i64 7, .int .i64 2]) : SerSl w exA ⟨some ⟨b, 0, none⟩, 4⟩ := by
  refine ⟨⟨⟨by decide, by decide⟩, fun _ => ⟨b, 0, rfl, h.lt, fun i hi => ?_⟩⟩, Nat.le_refl 4, by decide, by decide⟩
  rw [Nat.zero_add, h.cell]
  have hi' : i < 4 := hi
  match i, hi' with
  | 0, _ => rfl
  | 1, _ => rfl
  | 2, _ => rfl
  | 3, _ => rfl
theorem ex_rowsB {w : World} {b : Nat} (h : Blk w b 3 #[.int .i64 5]) : SerSl w exB ⟨some ⟨b, 0, none⟩, 1⟩ := by
  refine ⟨⟨⟨by decide, by decide⟩, fun _ => ⟨b, 0, rfl, h.lt, fun i hi => ?_⟩⟩, Nat.le_refl 1, by decide, by decide⟩
  rw [Nat.zero_add, h.cell]
  have hi' : i < 1 := hi
  match i, hi' with
  | 0, _ => rfl
theorem SerPost.out {fr st : Int} {l : List Int} {er : Int} {w w' : World} {e : Ending} (h : SerPost ⟨fr, st, l⟩ er w e w') : Below w.heap.size w w' ∧ ∃ A c, e = .returned (.tuple #[.agg #[.int .i64 fr, .int .i64 st, .slice A l.length c], .int .i64 er]) ∧ SerSl w' ⟨fr, st, l⟩ ⟨A, c⟩ := by
  obtain ⟨hb, ⟨A, c⟩, e, hs⟩ := h
  exact ⟨hb, A, c, e, hs⟩
theorem IntSl.ofBlk1 {w : World} {b : Nat} {l : List Int} (h : Blk w b 3 (l.map (Value.int .i64)).toArray) (hn : l.length ≤ 9223372036854775807) (hr : ∀ i (h : i < l.length), -9223372036854775808 ≤ l[i] ∧ l[i] ≤ 9223372036854775807) : IntSl w (some ⟨b, 0, none⟩) l := by
  refine ⟨⟨hn, hr⟩, fun _ => ⟨b, 0, rfl, h.lt, fun i hi => ?_⟩⟩
  rw [Nat.zero_add, h.cell]
  simp [hi]
set_option maxRecDepth 100000 in
set_option maxHeartbeats 4000000 in
theorem awake_any (w : World) : Calls Tryz.prog 5 #[] w (BPost true w) := by
  have X := ((Own.start w).alloc #[.int .i64 5, .int .i64 (-1), .int .i64 7, .int .i64 2] 3).alloc #[.int .i64 0, .int .i64 60, .slice (some ⟨w.heap.size, 0, none⟩) 4 4] 24
  simp only [World.size_alloc] at X
  have hr := X.r2
  have T := hide (fun W h => (by
    have := total_in exA ⟨some ⟨w.heap.size, 0, none⟩, 4⟩ W h exA_v
    rw [show ps exA.ds exA.ds.length = 14 from ex_ps, show ms exA.ds exA.ds.length = 1 from ex_ms] at this
    exact this : Calls Tryz.prog 14 #[.agg #[.int .i64 0, .int .i64 60, .slice (some ⟨w.heap.size, 0, none⟩) 4 4]] W (GrPost 14 1 0 W)))
  have G := hide (fun W h => (by
    have := gaps_in exA ⟨some ⟨w.heap.size, 0, none⟩, 4⟩ W h exA_v
    rw [show gpL exA.ds exA.ds.length = [(1, 1)] from ex_gp] at this
    exact this : Calls Tryz.prog 15 #[.agg #[.int .i64 0, .int .i64 60, .slice (some ⟨w.heap.size, 0, none⟩) 4 4]] W (GapPost [(1, 1)] 0 W)))
  have M := hide (fun W h => (by
    have := greatest_in exA ⟨some ⟨w.heap.size, 0, none⟩, 4⟩ 2 W h exA_v (by decide) (by decide)
    rw [show gm exA.ds 2 exA.ds.length = 9 from ex_gm, show gf exA.ds 2 exA.ds.length = 2 from ex_gf] at this
    exact this : Calls Tryz.prog 16 #[.agg #[.int .i64 0, .int .i64 60, .slice (some ⟨w.heap.size, 0, none⟩) 4 4], .int .i64 2] W (GrPost 9 2 0 W)))
  have C := hide (fun W h => (by
    have := coarser_in exA ⟨some ⟨w.heap.size, 0, none⟩, 4⟩ 2 2 W h exA_v (by decide) (by decide) (by decide) (by decide)
    rw [ex_ch] at this
    exact this : Calls Tryz.prog 17 #[.agg #[.int .i64 0, .int .i64 60, .slice (some ⟨w.heap.size, 0, none⟩) 4 4], .int .i64 2] W (SerPost ⟨0, 120, [-1, 9]⟩ 0 W)))
  have F := hide (fun (b : Nat) W h => (by
    have := finer_in exB ⟨some ⟨b, 0, none⟩, 1⟩ 3 W h exB_v (by decide) (by decide) (by decide) (by decide) (by decide)
    rw [show fnL exB.ds 3 exB.ds.length = [1, 2, 2] from ex_fn] at this
    exact this : Calls Tryz.prog 18 #[.agg #[.int .i64 0, .int .i64 60, .slice (some ⟨b, 0, none⟩) 1 1], .int .i64 3] W (SerPost ⟨0, 20, [1, 2, 2]⟩ 0 W)))
  go_enter Tryz.func5, Tryz.ntmps5
  go_wp2_with fail
  refine (T.out _ (ex_rowsA (X.2 (w.heap.size, _, _) (by simp)))).mono ?_
  rintro e w1 ⟨rfl, hb⟩
  replace X := X.to hb
  clear hb hr
  have hr := X.r2
  go_wp2_with fail
  refine (G.out _ (ex_rowsA (X.2 (w.heap.size, _, _) (by simp)))).mono ?_
  rintro e w2 ⟨hb, A1, c1, rfl, hp⟩
  replace X := X.to hb
  have HP := hide hp
  clear hb hr hp
  have hr := X.r2
  go_wp2_with fail
  refine (M.out _ (ex_rowsA (X.2 (w.heap.size, _, _) (by simp)))).mono ?_
  rintro e w3 ⟨rfl, hb⟩
  replace X := X.to hb
  replace HP := hide (HP.out.below hb)
  clear hb hr
  have hr := X.r2
  go_wp2_with fail
  refine (C.out _ (ex_rowsA (X.2 (w.heap.size, _, _) (by simp)))).mono ?_
  intro e w4 hq
  obtain ⟨hb, A2, c2, rfl, hs2⟩ := hq.out
  replace X := (X.to hb).alloc #[.int .i64 0, .int .i64 120, .slice A2 2 c2] 24
  have b4 : Below w4.heap.size w4 (w4.alloc (.cells #[.int .i64 0, .int .i64 120, .slice A2 2 c2] 24)) := (Below.refl _ _).alloc (Nat.le_refl _) _
  replace HP := hide ((HP.out.below hb).below b4)
  have HS2 := hide (hs2.1.below b4)
  clear hb hr hq hs2 b4
  have hr := X.r3
  go_wp2_with fail
  have X5 := X.alloc #[.int .i64 5] 3
  simp only [World.size_alloc] at X5
  have b5 : Below (w4.alloc (.cells #[.int .i64 0, .int .i64 120, .slice A2 2 c2] 24)).heap.size (w4.alloc (.cells #[.int .i64 0, .int .i64 120, .slice A2 2 c2] 24)) ((w4.alloc (.cells #[.int .i64 0, .int .i64 120, .slice A2 2 c2] 24)).alloc (.cells #[.int .i64 5] 3)) := (Below.refl _ _).alloc (Nat.le_refl _) _
  refine (F.out _ _ (ex_rowsB (X5.2 (w4.heap.size + 1, _, _) (List.mem_cons_self ..)))).mono ?_
  intro e w6 hq
  obtain ⟨hb, A3, c3, rfl, hs3⟩ := hq.out
  have b6 : Below w6.heap.size w6 (w6.alloc (.cells #[.int .i64 0, .int .i64 20, .slice A3 3 c3] 24)) := (Below.refl _ _).alloc (Nat.le_refl _) _
  replace X := (X5.to hb).tail.alloc #[.int .i64 0, .int .i64 20, .slice A3 3 c3] 24
  replace HP := hide (((HP.out.below b5).below hb).below b6)
  replace HS2 := hide (((HS2.out.below b5).below hb).below b6)
  have HS3 := hide (hs3.1.below b6)
  clear hb hr hq hs3 b6 b5 X5 T G M C F
  generalize hW : w6.alloc (.cells #[.int .i64 0, .int .i64 20, .slice A3 3 c3] 24) = W at *
  have hr := X.r2
  have E1 : ∀ (V : World), PairSl V A1 [(1, 1)] → PairSl V (some ⟨W.heap.size, 0, none⟩) [(1, 1)] → Calls Tryz.prog 19 #[.slice A1 1 c1, .slice (some ⟨W.heap.size, 0, none⟩) 1 1] V fun e w' => e = .returned (.bool true) ∧ ∃ d, w' = V.drewN d := fun V h1 h2 => equalP_any [(1, 1)] [(1, 1)] A1 _ c1 1 V h1 h2 true (by simp)
  have XP := X.alloc #[.int .i64 1, .int .i64 1] 51
  have P2 : PairSl (W.alloc (.cells #[.int .i64 1, .int .i64 1] 51)) (some ⟨W.heap.size, 0, none⟩) [(1, 1)] := by
    refine ⟨by decide, fun _ => ⟨W.heap.size, 0, rfl, XP.r1.2.2, fun i hi => ?_⟩⟩
    have hi' : i < 1 := hi
    obtain rfl : i = 0 := by omega
    exact ⟨XP.r1.1 0, XP.r1.1 1⟩
  have b7 : Below W.heap.size W (W.alloc (.cells #[.int .i64 1, .int .i64 1] 51)) := (Below.refl _ _).alloc (Nat.le_refl _) _
  have EH := hide (E1 _ (HP.out.below b7) P2)
  have lt8 := X.r1.2.2
  clear E1 P2
  go_wp2_with fail
  refine EH.out.mono ?_
  rintro e w7 ⟨rfl, d, rfl⟩
  have B7 : Below W.heap.size W ((W.alloc (.cells #[.int .i64 1, .int .i64 1] 51)).drewN d) := below_drewN b7 d
  replace X := X.to B7
  replace HS2 := hide (HS2.out.below B7)
  replace HS3 := hide (HS3.out.below B7)
  clear EH XP b7 hr HP B7
  generalize hV : (W.alloc (.cells #[.int .i64 1, .int .i64 1] 51)).drewN d = V at *
  clear hW hV
  have hr := X.r2
  have X8 := X.alloc #[.int .i64 (-1), .int .i64 9] 3
  have b8 : Below V.heap.size V (V.alloc (.cells #[.int .i64 (-1), .int .i64 9] 3)) := (Below.refl _ _).alloc (Nat.le_refl _) _
  have E2 := hide (equalI_any [-1, 9] [-1, 9] A2 _ c2 2 _ (HS2.out.below b8) (IntSl.ofBlk1 (l := [-1, 9]) (X8.2 (V.heap.size, _, _) (List.mem_cons_self ..)) (by decide) (by decide)))
  go_wp2_with fail
  refine E2.out.mono ?_
  rintro e w8 ⟨rfl, hb⟩
  replace X := (X8.to hb).tail
  replace HS3 := hide ((HS3.out.below b8).below hb)
  clear E2 X8 b8 hb hr HS2
  have hr := X.r2
  rw [show eqB [-1, 9] [-1, 9] = true by decide]
  have X9 := X.alloc #[.int .i64 1, .int .i64 2, .int .i64 2] 3
  have b9 : Below w8.heap.size w8 (w8.alloc (.cells #[.int .i64 1, .int .i64 2, .int .i64 2] 3)) := (Below.refl _ _).alloc (Nat.le_refl _) _
  have E3 := hide (equalI_any [1, 2, 2] [1, 2, 2] A3 _ c3 3 _ (HS3.out.below b9) (IntSl.ofBlk1 (l := [1, 2, 2]) (X9.2 (w8.heap.size, _, _) (List.mem_cons_self ..)) (by decide) (by decide)))
  go_wp2_with fail
  refine E3.out.mono ?_
  rintro e w9 ⟨rfl, hb⟩
  replace X := (X9.to hb).tail
  clear E3 X9 b9 hb hr HS3
  rw [show eqB [1, 2, 2] [1, 2, 2] = true by decide]
  go_wp2
  go_ret
  exact ⟨rfl, X.1⟩
end Go.Proofs.YtkjndkeboeieoaaGreatDoor

namespace Go.Proofs.YtkjndkeboeieoaaGreatDoor
open Go.RowKit

/-- a slice of records in memory -/
def SerL (w : World) (b off : Nat) (L : List (Ser × SerA)) : Prop := b < w.heap.size ∧ ∀ i (h : i < L.length), w.cell? ⟨b, off + i * 3, none⟩ = some (.int .i64 L[i].1.fr) ∧ w.cell? ⟨b, off + i * 3 + 1, none⟩ = some (.int .i64 L[i].1.st) ∧ w.cell? ⟨b, off + i * 3 + 2, none⟩ = some (.slice L[i].2.A L[i].1.ds.length L[i].2.c)
theorem SerL.below {w w' : World} {b off : Nat} {L : List (Ser × SerA)} (h : SerL w b off L) (hb : Below w.heap.size w w') : SerL w' b off L :=
  ⟨Nat.lt_of_lt_of_le h.1 hb.size, fun i hi => by
    obtain ⟨h1, h2, h3⟩ := h.2 i hi
    exact ⟨(hb.cell (p := ⟨b, off + i * 3, none⟩) h.1).trans h1, (hb.cell (p := ⟨b, off + i * 3 + 1, none⟩) h.1).trans h2, (hb.cell (p := ⟨b, off + i * 3 + 2, none⟩) h.1).trans h3⟩⟩
/-- the numbers of steps -/
def lens (L : List (Ser × SerA)) : List Int := L.map fun x => (x.1.ds.length : Int)
def longP (d : Int) : Bool := decide (200 < d)
theorem lens_length (L : List (Ser × SerA)) : (lens L).length = L.length := by simp [lens]
theorem lens_at (L : List (Ser × SerA)) {i : Nat} (h : i < L.length) : (lens L)[i]'(by rw [lens_length]; exact h) = (L[i].1.ds.length : Int) := by simp [lens]
set_option maxHeartbeats 1000000 in
theorem few1_any (s : Ser) (a : SerA) (w : World) : Calls Tryz.prog 22 #[s.val a] w (BPost (longP (s.ds.length : Int)) w) := by
  obtain ⟨fr, st, l⟩ := s
  show Calls Tryz.prog 22 #[.agg #[.int .i64 fr, .int .i64 st, .slice a.A l.length a.c]] w (BPost (longP (l.length : Int)) w)
  generalize l.length = n
  have X := (Own.start w).alloc #[.int .i64 fr, .int .i64 st, .slice a.A n a.c] 24
  have hr := X.r1
  have V := hide (show longP (n : Int) = decide ((200 : Int) < (n : Int)) from rfl)
  go_enter Tryz.func22, Tryz.ntmps22
  go_wp2
  go_ret
  exact BPost.mk V.out X.1
set_option maxHeartbeats 1000000 in
theorem idxS_any (L : List (Ser × SerA)) (b off cap : Nat) (w : World) (hl : SerL w b off L) (hn : L.length ≤ 10000) :
    Calls Tryz.prog 48 #[.slice (some ⟨b, off, none⟩) L.length cap, .func (.func 22) #[] #[]] w fun e w' => e = .returned (.int .i64 (idxP longP (lens L))) ∧ Below w.heap.size w w' := by
  have H := hide hl
  have hll := hide (lens_length L)
  clear hl
  go_enter Tryz.func48, Tryz.ntmps48
  go_wp2
  go_loopw [5, 8] (fun v5 v8 wr => ∃ k : Nat, k ≤ L.length ∧ v8 = .int .i64 k ∧ Hid (Below w.heap.size w wr ∧ ∀ i (hi : i < (lens L).length), i < k → longP (lens L)[i] = false)) (fun _ v8 _ => L.length - (intOf v8).toNat)
  case atStart => exact ⟨0, Nat.zero_le _, rfl, hide ⟨Below.refl _ _, fun _ _ h => by omega⟩⟩
  case round =>
    obtain ⟨k, hk, rfl, Y⟩ := hrel
    by_cases hlt : k < L.length
    · obtain ⟨c0, c1, c2⟩ := (H.out.below Y.out.1).2 k hlt
      have F := hide (few1_any L[k].1 L[k].2)
      have la := hide (lens_at L hlt)
      have hk2 : k < (lens L).length := by rw [hll.out]; exact hlt
      generalize L[k].1 = s at *
      generalize L[k].2 = a at *
      have g0 : (0 : Int) ≤ (k : Int) := by omega
      have g1 : (k : Int) < (L.length : Int) := by omega
      rcases Bool.eq_false_or_eq_true (longP (s.ds.length : Int)) with hs | hs
      · have YES := hide (idxP_yes hk2 (fun i hi hik => Y.out.2 i hi hik) (by rw [la.out]; exact hs))
        rw [hs] at F
        clear hs
        go_wp2_with fail
        refine (F.out _).mono ?_
        rintro e w1 ⟨rfl, hb⟩
        have B := hide (below_via Y.out.1 Y.out.1.size hb)
        clear hb
        go_wp2
        go_ret
        exact ⟨ret_int YES.out.symm, B.out⟩
      · have NX := hide (fun i (hi : i < (lens L).length) (hik : i < k + 1) => (by
          by_cases e : i = k
          · subst e; rw [la.out]; exact hs
          · exact Y.out.2 i hi (by omega) : longP (lens L)[i] = false))
        rw [hs] at F
        clear hs
        go_wp2_with fail
        refine (F.out _).mono ?_
        rintro e w1 ⟨rfl, hb⟩
        have B := hide (below_via Y.out.1 Y.out.1.size hb)
        clear hb
        go_wp2
        go_roundw
        case rel => exact ⟨k + 1, by omega, by go_num, hide ⟨B.out, NX.out⟩⟩
        case measure => simp [intOf]; omega
    · have NO := hide (idxP_no (p := longP) (l := lens L) (fun i hi => Y.out.2 i hi (by have := hll.out; omega)))
      go_wp2
      go_ret
      exact ⟨ret_int NO.out.symm, Y.out.1⟩
set_option maxHeartbeats 1000000 in
theorem few_any (L : List (Ser × SerA)) (b off cap : Nat) (w : World) (hl : SerL w b off L) (hn : L.length ≤ 10000) :
    Calls Tryz.prog 6 #[.slice (some ⟨b, off, none⟩) L.length cap] w (BPost (!(lens L).any longP) w) := by
  have I := hide (fun W (h : SerL W b off L) => idxS_any L b off cap W h hn)
  have A := hide (any_idx longP (lens L))
  have HL := hide hl
  clear hl
  have C : ∀ W, SerL W b off L → Calls Tryz.prog 21 #[.slice (some ⟨b, off, none⟩) L.length cap, .func (.func 22) #[] #[]] W (BPost ((lens L).any longP) W) := fun W hW => by
    go_enter Tryz.func21, Tryz.ntmps21
    go_wp2_with fail
    refine (I.out _ hW).mono ?_
    rintro e w1 ⟨rfl, hb⟩
    have B := hide hb
    clear hb
    go_wp2
    go_ret
    exact BPost.mk A.out B.out
  have CH := hide C
  clear C
  go_enter Tryz.func6, Tryz.ntmps6
  go_wp2_with fail
  refine (CH.out _ HL.out).mono ?_
  rintro e w1 ⟨rfl, hb⟩
  have B := hide hb
  clear hb
  go_wp2
  go_ret
  exact ⟨rfl, B.out⟩
end Go.Proofs.YtkjndkeboeieoaaGreatDoor

namespace Go.Proofs.YtkjndkeboeieoaaGreatDoor
open Go.RowKit

theorem few_one (s : Ser) (a : SerA) (b : Nat) (W : World) (h : Blk W b 24 (s.cells a)) : Calls Tryz.prog 6 #[.slice (some ⟨b, 0, none⟩) 1 1] W (BPost (!longP (s.ds.length : Int)) W) := by
  have := few_any [(s, a)] b 0 1 W ⟨h.lt, fun i hi => by
    have hi' : i < 1 := hi
    obtain rfl : i = 0 := by omega
    exact ⟨h.cell 0, h.cell 1, h.cell 2⟩⟩ (by simp)
  rw [show (lens [(s, a)]).any longP = longP (s.ds.length : Int) by simp [lens]] at this
  exact this
theorem few_two (s : Ser) (a : SerA) (t : Ser) (c : SerA) (b : Nat) (W : World) (h : Blk W b 24 #[.int .i64 s.fr, .int .i64 s.st, .slice a.A s.ds.length a.c, .int .i64 t.fr, .int .i64 t.st, .slice c.A t.ds.length c.c]) : Calls Tryz.prog 6 #[.slice (some ⟨b, 0, none⟩) 2 2] W (BPost (!(longP (s.ds.length : Int) || longP (t.ds.length : Int))) W) := by
  have := few_any [(s, a), (t, c)] b 0 2 W ⟨h.lt, fun i hi => by
    have hi' : i < 2 := hi
    match i, hi' with
    | 0, _ => exact ⟨h.cell 0, h.cell 1, h.cell 2⟩
    | 1, _ => exact ⟨h.cell 3, h.cell 4, h.cell 5⟩⟩ (by simp)
  rw [show (lens [(s, a), (t, c)]).any longP = (longP (s.ds.length : Int) || longP (t.ds.length : Int)) by simp [lens]] at this
  exact this
theorem long_yes {n : Nat} (h : 200 < n) : longP (n : Int) = true := decide_eq_true (by omega)
theorem long_no {n : Nat} (h : n ≤ 200) : longP (n : Int) = false := decide_eq_false (by omega)
set_option maxHeartbeats 1000000 in
theorem greatest_bad (s : Ser) (a : SerA) (k : Int) (w : World) (hs : SerSl w s a) (hv : vS s = false) : Calls Tryz.prog 16 #[s.val a, .int .i64 k] w (GrPost 0 0 1 w) := by
  have V := hide (fun W (h : SerSl W s a) => gvalid_any s a W h)
  rw [hv] at V
  have HS := hide hs
  have X := (Own.start w).alloc (s.cells a) 24
  clear hs hv
  have hr := X.r1
  go_enter Tryz.func16, Tryz.ntmps16
  go_wp2_with fail
  refine (V.out _ (HS.out.below X.1)).mono ?_
  rintro e w1 ⟨rfl, hb⟩
  replace X := X.to hb
  clear hb hr
  go_wp2
  go_ret3
  exact GrPost.mk rfl rfl rfl X.1
set_option maxHeartbeats 1000000 in
theorem greatest_range (s : Ser) (a : SerA) (k : Int) (w : World) (hs : SerSl w s a) (hv : vS s = true) (hk : k < 1 ∨ (1 ≤ k ∧ (s.ds.length : Int) < k)) : Calls Tryz.prog 16 #[s.val a, .int .i64 k] w (GrPost 0 0 2 w) := by
  have V := hide (fun W (h : SerSl W s a) => gvalid_any s a W h)
  rw [hv] at V
  have HS := hide hs
  have X := (Own.start w).alloc (s.cells a) 24
  clear hs hv
  have hr := X.r1
  rcases hk with hk | ⟨hk1, hk2⟩
  all_goals
    go_enter Tryz.func16, Tryz.ntmps16
    go_wp2_with fail
    refine (V.out _ (HS.out.below X.1)).mono ?_
    rintro e w1 ⟨rfl, hb⟩
    replace X := X.to hb
    clear hb hr
    have hr := X.r1
    go_wp2
    go_ret3
    exact GrPost.mk rfl rfl rfl X.1
end Go.Proofs.YtkjndkeboeieoaaGreatDoor

namespace Go.Proofs.YtkjndkeboeieoaaGreatDoor
open Go.RowKit

theorem own_drewN {w W : World} {L : List (Nat × TypeId × Array Value)} (h : Own w W L) (n : Nat) : Own w (W.drewN n) L := ⟨⟨h.1.os, h.1.tape, h.1.output, h.1.size, h.1.block⟩, fun x hx => (h.2 x hx).drewN n⟩
/-- two records are equal -/
def sameB (s t : Ser) : Bool := decide (s.fr = t.fr ∧ s.st = t.st ∧ s.ds = t.ds)
theorem sameB_no {fr st fr' st' : Int} {l m : List Int} (h : ¬ (fr = fr' ∧ st = st' ∧ l = m)) : sameB ⟨fr, st, l⟩ ⟨fr', st', m⟩ = false := decide_eq_false h
theorem sameB_yes {fr st fr' st' : Int} {l m : List Int} (h : fr = fr' ∧ st = st' ∧ l = m) : sameB ⟨fr, st, l⟩ ⟨fr', st', m⟩ = true := decide_eq_true h
theorem getD_ext {l m : List Int} (hn : l.length = m.length) (h : ∀ i, i < l.length → l.getD i 0 = m.getD i 0) : l = m := by
  refine List.ext_getElem hn (fun i h1 h2 => ?_)
  have := h i h1
  simpa [h1, h2] using this
set_option maxRecDepth 100000 in
set_option maxHeartbeats 4000000 in
theorem same_any (s : Ser) (a : SerA) (t : Ser) (b : SerA) (w : World) (hs : SerSl w s a) (ht : SerSl w t b) : Calls Tryz.prog 12 #[s.val a, t.val b] w (BPost (sameB s t) w) := by
  obtain ⟨fr, st, l⟩ := s
  obtain ⟨A, c⟩ := a
  obtain ⟨fr', st', m⟩ := t
  obtain ⟨B, c'⟩ := b
  have hl := hide hs.1
  have hm := hide ht.1
  have X := ((Own.start w).alloc #[.int .i64 fr, .int .i64 st, .slice A l.length c] 24).alloc #[.int .i64 fr', .int .i64 st', .slice B m.length c'] 24
  simp only [World.size_alloc] at X
  have ll : l.length ≤ 9223372036854775807 := hs.1.1.1
  clear hs ht
  have hr := X.r2
  show Calls Tryz.prog 12 #[.agg #[.int .i64 fr, .int .i64 st, .slice A l.length c], .agg #[.int .i64 fr', .int .i64 st', .slice B m.length c']] w _
  by_cases h1 : fr = fr'
  case neg =>
    have q1 : (fr == fr') = false := by simpa using h1
    have q2 : (fr != fr') = true := by simpa using h1
    have E := hide (sameB_no (l := l) (m := m) (st := st) (st' := st') (fun h => h1 h.1))
    clear h1
    go_enter Tryz.func12, Tryz.ntmps12
    go_wp2
    go_ret
    exact BPost.mk E.out X.1
  by_cases h2 : st = st'
  case neg =>
    have q2 : (st != st') = true := by simpa using h2
    have E := hide (sameB_no (fr := fr) (fr' := fr) (l := l) (m := m) (fun h => h2 h.2.1))
    subst h1
    clear h2
    go_enter Tryz.func12, Tryz.ntmps12
    go_wp2
    go_ret
    exact BPost.mk E.out X.1
  by_cases h3 : l.length = m.length
  case neg =>
    have q2 : ((l.length : Int) != (m.length : Int)) = true := by simp; omega
    have q1 : ((l.length : Int) == (m.length : Int)) = false := by simp; omega
    have E := hide (sameB_no (fr := fr) (fr' := fr) (st := st) (st' := st) (l := l) (m := m) (fun h => h3 (by rw [h.2.2])))
    subst h1 h2
    clear h3
    go_enter Tryz.func12, Tryz.ntmps12
    go_wp2
    go_ret
    exact BPost.mk E.out X.1
  subst h1 h2
  have q2 : ((l.length : Int) != (m.length : Int)) = false := by simp; omega
  have q1 : ((l.length : Int) == (m.length : Int)) = true := by simp; omega
  have H3 := hide h3
  clear h3
  go_enter Tryz.func12, Tryz.ntmps12
  go_wp2
  clear hr
  have XH := hide X
  clear X
  go_loopw [5] (fun v5 wr => ∃ k : Nat, k ≤ l.length ∧ v5 = .int .i64 (k : Int) ∧ Hid (Own w wr [(w.heap.size + 1, 24, #[.int .i64 fr, .int .i64 st, .slice B m.length c']), (w.heap.size, 24, #[.int .i64 fr, .int .i64 st, .slice A l.length c])] ∧ ∀ i, i < k → l.getD i 0 = m.getD i 0)) (fun v5 _ => l.length - (intOf v5).toNat)
  case atStart => exact ⟨0, Nat.zero_le _, rfl, hide ⟨XH.out, fun _ h => by omega⟩⟩
  case round =>
    obtain ⟨k, hk, rfl, Y⟩ := hrel
    have hr := Y.out.1.r2
    by_cases hlt : k < l.length
    · obtain ⟨g, off, rfl, hgl, hat⟩ := (hl.out.below Y.out.1.1).atg (by omega)
      obtain ⟨g', off', rfl, hgl', hat'⟩ := (hm.out.below Y.out.1.1).atg (by have := H3.out; omega)
      have c0 := hat k hlt
      have d0 := hat' k (by have := H3.out; omega)
      have g0 : (0 : Int) ≤ (k : Int) := by omega
      have g1 : (k : Int) < (l.length : Int) := by omega
      have g2 : (k : Int) < (m.length : Int) := by have := H3.out; omega
      clear hat hat' q1 q2
      by_cases e : l.getD k 0 = m.getD k 0
      · have HN := hide (fun i (hi : i < k + 1) => (by
          by_cases e' : i = k
          · subst e'; exact e
          · exact Y.out.2 i (by omega) : l.getD i 0 = m.getD i 0))
        have e1 : (m.getD k 0 != m.getD k 0) = false := by simp
        rw [e] at c0
        clear e
        generalize m.getD k 0 = y at *
        go_wp2
        go_quiet (fail)
        go_wp2
        go_roundw
        case rel => exact ⟨k + 1, by omega, by go_num, hide ⟨own_drewN Y.out.1 _, HN.out⟩⟩
        case measure => simp [intOf]; omega
      · have e1 : (l.getD k 0 != m.getD k 0) = true := by simpa using e
        have e2 : (l.getD k 0 == m.getD k 0) = false := by simpa using e
        have E := hide (sameB_no (fr := fr) (fr' := fr) (st := st) (st' := st) (l := l) (m := m) (fun h => e (by rw [h.2.2])))
        clear e
        generalize l.getD k 0 = x at *
        generalize m.getD k 0 = y at *
        go_wp2
        go_quiet (fail)
        go_wp2
        go_ret
        exact BPost.mk E.out (own_drewN Y.out.1 _).1
    · have E := hide (sameB_yes (fr := fr) (st := st) ⟨rfl, rfl, getD_ext H3.out (fun i hi => Y.out.2 i (by omega))⟩)
      clear q1 q2
      go_wp2
      go_ret
      exact BPost.mk E.out Y.out.1.1
end Go.Proofs.YtkjndkeboeieoaaGreatDoor
