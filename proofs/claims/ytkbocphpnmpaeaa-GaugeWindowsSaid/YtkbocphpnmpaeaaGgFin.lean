/- The program's Finer of records, for factors from 1 on within the limit: what it returns; nothing that was there is turned. -/
import Derived.Test.YtkbocphpnmpaeaaGgRep
import Derived.Test.YtkbocphpnmpaeaaRtShare
import Derived.Test.YtkbocphpnmpaeaaGgGat
import Derived.Deep.RegionHeldLaw
namespace Go.Proofs.Ytkbocphpnmpaeaa
open Go.RowKit

/-- the parts of a depth -/
def fnD (k : Nat) (d : Int) : List Int := if d = -1 then List.replicate k (-1) else shL d (List.replicate k 1)
/-- the parts of the first depths -/
def fnL (l : List Int) (k : Nat) : Nat → List Int | 0 => [] | i + 1 => fnL l k i ++ fnD k (l.getD i 0)
theorem shE_ones {k : Nat} {d : Int} (h1 : 1 ≤ k) (h2 : k ≤ 10000) (h3 : 0 ≤ d) (h4 : d ≤ 4194304) : shE d (List.replicate k 1) = 0 := by
  have hs : (List.replicate k (1 : Int)).sum = (k : Int) := by simp [List.sum_replicate_int]
  have hw : wB (List.replicate k (1 : Int)) = true := wB_iff.2 (fun i h => by simp)
  unfold shE
  rw [List.length_replicate, if_neg (by omega), if_neg (by omega), hw, if_neg (by simp), hs, if_neg (by omega), if_neg (by omega)]
theorem shL_ones_length {k : Nat} {d : Int} (h1 : 1 ≤ k) (h2 : k ≤ 10000) (h3 : 0 ≤ d) (h4 : d ≤ 4194304) : (shL d (List.replicate k 1)).length = k := by
  unfold shL
  rw [if_pos (shE_ones h1 h2 h3 h4), shK_length, List.length_replicate]
theorem fnD_length {k : Nat} {d : Int} (h1 : 1 ≤ k) (h2 : k ≤ 10000) (h3 : -1 ≤ d) (h4 : d ≤ 4194304) : (fnD k d).length = k := by
  unfold fnD
  split
  · simp
  · exact shL_ones_length h1 h2 (by omega) h4
theorem fnL_length {l : List Int} {k : Nat} (h1 : 1 ≤ k) (h2 : k ≤ 10000) (h : ∀ i, i < l.length → -1 ≤ l.getD i 0 ∧ l.getD i 0 ≤ 4194304) : ∀ i, i ≤ l.length → (fnL l k i).length = i * k
  | 0, _ => by simp [fnL]
  | i + 1, hi => by
    have b := h i (by omega)
    show (fnL l k i ++ fnD k (l.getD i 0)).length = _
    rw [List.length_append, fnL_length h1 h2 h i (by omega), fnD_length h1 h2 b.1 b.2, Nat.add_mul, Nat.one_mul]
theorem shL_bd {k : Nat} {d : Int} (h1 : 1 ≤ k) (h2 : k ≤ 10000) (h3 : 0 ≤ d) (h4 : d ≤ 4194304) {x : Int} (hx : x ∈ shL d (List.replicate k 1)) : 0 ≤ x ∧ x ≤ 1125899906842624 := by
  unfold shL at hx
  rw [if_pos (shE_ones h1 h2 h3 h4)] at hx
  obtain ⟨i, hi, rfl⟩ := List.mem_iff_getElem.1 hx
  have hs : (List.replicate k (1 : Int)).sum = (k : Int) := by simp [List.sum_replicate_int]
  exact shK_bd h3 (by omega) (by omega) (fun i h => by simp) (Int.le_refl _) i hi
theorem fnL_bd {l : List Int} {k : Nat} (h1 : 1 ≤ k) (h2 : k ≤ 10000) (h : ∀ i, i < l.length → -1 ≤ l.getD i 0 ∧ l.getD i 0 ≤ 4194304) : ∀ i, i ≤ l.length → ∀ x ∈ fnL l k i, -1 ≤ x ∧ x ≤ 1125899906842624
  | 0, _, x, hx => by simp [fnL] at hx
  | i + 1, hi, x, hx => by
    have b := h i (by omega)
    have hx' : x ∈ fnL l k i ++ fnD k (l.getD i 0) := hx
    rcases List.mem_append.1 hx' with hx | hx
    · exact fnL_bd h1 h2 h i (by omega) x hx
    · unfold fnD at hx
      split at hx
      · rw [List.eq_of_mem_replicate hx]; omega
      · have := shL_bd h1 h2 (by omega) b.2 hx
        omega
set_option maxRecDepth 100000 in
set_option maxHeartbeats 4000000 in
theorem finer_range (s : Ser) (a : SerA) (k : Nat) (w : World) (hs : SerSl w s a) (hv : vS s = true) (h1 : 1 ≤ k) (h2 : k ≤ 10000) (h3 : s.st % (k : Int) ≠ 0) :
    Calls Try.prog 11 #[s.val a, .int .i64 (k : Int)] w (SerPost Ser0 2 w) := by
  obtain ⟨fr, st, l⟩ := s
  obtain ⟨A, c⟩ := a
  have h3' : st % (k : Int) ≠ 0 := h3
  have V := hide (fun W (h : SerSl W ⟨fr, st, l⟩ ⟨A, c⟩) => gvalid_any ⟨fr, st, l⟩ ⟨A, c⟩ W h)
  rw [hv] at V
  have v := vS_iff.1 hv
  have v1 : 1 ≤ st ∧ st ≤ 86400 := v.st
  clear hv v h3
  have HS := hide hs
  have X := ((Own.start w).alloc #[.int .i64 fr, .int .i64 st, .slice A l.length c] 24).alloc #[.int .i64 0, .int .i64 0, .slice none 0 0] 24
  simp only [World.size_alloc] at X
  clear hs
  have hr := X.r2
  have m1 : st.tmod (k : Int) = st % (k : Int) := Int.tmod_eq_emod_of_nonneg (by omega)
  have b1 : 0 ≤ st % (k : Int) := Int.emod_nonneg _ (by omega)
  have b2 : st % (k : Int) < (k : Int) := Int.emod_lt_of_pos _ (by omega)
  have w1 : IntKind.i64.wrap (st.tmod (k : Int)) = st % (k : Int) := by rw [m1]; exact IntWalk.i64_in _ (by omega)
  generalize hm : st % (k : Int) = m at *
  have q2 : (m == 0) = false := by simpa using h3'
  have q3 : (m != 0) = true := by simpa using h3'
  have q4 : decide ((k : Int) < 1) = false := decide_eq_false (by omega)
  have q5 : ((k : Int) == 0) = false := by simp; omega
  have q6 : ¬ (k : Int) = 0 := by omega
  clear h3' hm b1 b2 v1
  show Calls Try.prog 11 #[.agg #[.int .i64 fr, .int .i64 st, .slice A l.length c], .int .i64 (k : Int)] w _
  go_enter Try.func11, Try.ntmps11
  go_wp2_with fail
  refine (V.out _ (HS.out.below X.1)).mono ?_
  rintro e w1 ⟨rfl, hb⟩
  replace X := X.to hb
  clear hb hr HS V
  have hr := X.r2
  go_wp2
  exact bodyPost_ret (v := .tuple #[.agg #[.int .i64 0, .int .i64 0, .slice none 0 0], .int .i64 2]) (by simp [results, Try.results11, hr, go_sem]) rfl (SerPost.err (by have HX := X.1; have hz := HX.size; go_grown))
set_option maxRecDepth 100000 in
set_option maxHeartbeats 4000000 in
theorem finer_in (s : Ser) (a : SerA) (k : Nat) (w : World) (hs : SerSl w s a) (hv : vS s = true) (h1 : 1 ≤ k) (h2 : k ≤ 10000) (h3 : s.st % (k : Int) = 0) (h4 : s.ds.length * k ≤ 10000) (h5 : 1 ≤ s.ds.length) :
    Calls Try.prog 11 #[s.val a, .int .i64 (k : Int)] w (SerPost ⟨s.fr, s.st / (k : Int), fnL s.ds k s.ds.length⟩ 0 w) := by
  obtain ⟨fr, st, l⟩ := s
  obtain ⟨A, c⟩ := a
  have h3' : st % (k : Int) = 0 := h3
  have V := hide (fun W (h : SerSl W ⟨fr, st, l⟩ ⟨A, c⟩) => gvalid_any ⟨fr, st, l⟩ ⟨A, c⟩ W h)
  rw [hv] at V
  have v := vS_iff.1 hv
  have v1 : 1 ≤ st ∧ st ≤ 86400 := v.st
  have vf : -68719476736 ≤ fr ∧ fr ≤ 68719476736 := v.fr
  have HV := hide v.ok
  have le : l.length ≤ 10000 := v.le
  have lk : l.length * k ≤ 10000 := h4
  have l1 : 1 ≤ l.length := h5
  have LK := hide (fun i (hi : i ≤ l.length) => (by
    refine ⟨fnL_length h1 h2 v.ok i hi, ?_⟩
    have : i * k ≤ l.length * k := Nat.mul_le_mul_right k hi
    omega : (fnL l k i).length = i * k ∧ i * k ≤ 10000))
  clear hv v h3 h4 h5
  obtain ⟨b, off, rfl, hbl, hat⟩ := hs.1.atg (by show 0 < l.length; omega)
  have HS := hide hs
  have HAT := hide hat
  have X := ((Own.start w).alloc #[.int .i64 fr, .int .i64 st, .slice (some ⟨b, off, none⟩) l.length c] 24).alloc #[.int .i64 0, .int .i64 0, .slice none 0 0] 24
  simp only [World.size_alloc] at X
  clear hs hat
  have hr := X.r2
  have m1 : st.tmod (k : Int) = st % (k : Int) := Int.tmod_eq_emod_of_nonneg (by omega)
  have m2 : st.tdiv (k : Int) = st / (k : Int) := Int.tdiv_eq_ediv_of_nonneg (by omega)
  have b3 : 0 ≤ st / (k : Int) := Int.ediv_nonneg (by omega) (by omega)
  have b4 : st / (k : Int) ≤ st := Int.ediv_le_self _ (by omega)
  obtain ⟨q, hq⟩ : ∃ q, q = st / (k : Int) := ⟨_, rfl⟩
  have qb : 0 ≤ q ∧ q ≤ 86400 := by rw [hq]; exact ⟨b3, Int.le_trans b4 v1.2⟩
  have w1 : IntKind.i64.wrap (st.tmod (k : Int)) = 0 := by rw [m1, h3']; decide
  have w2 : IntKind.i64.wrap (st.tdiv (k : Int)) = q := by rw [m2, ← hq]; exact IntWalk.i64_in _ (by omega)
  have m3 : st.tmod (k : Int) = 0 := m1.trans h3'
  have m4 : st.tdiv (k : Int) = q := m2.trans hq.symm
  have w0 : IntKind.i64.wrap q = q := IntWalk.i64_in _ (by omega)
  have p0 : ((l.length : Int) * (k : Int)) = ((l.length * k : Nat) : Int) := by rw [Int.natCast_mul]
  have lkz : ((l.length * k : Nat) : Int) ≤ 10000 := by omega
  have lkn : (0 : Int) ≤ ((l.length * k : Nat) : Int) := by omega
  have w3 : IntKind.i64.wrap ((l.length : Int) * (k : Int)) = ((l.length * k : Nat) : Int) := by rw [p0]; exact IntWalk.i64_in _ ⟨by omega, by omega⟩
  have q3 : decide ((10000 : Int) < ((l.length * k : Nat) : Int)) = false := decide_eq_false (by omega)
  have q4 : decide ((k : Int) < 1) = false := decide_eq_false (by omega)
  have q5 : ((k : Int) == 0) = false := by simp; omega
  have q6 : ¬ (k : Int) = 0 := by omega
  have q7 : ((l.length : Int) == 0) = false := beq_eq_false_iff_ne.2 (by omega)
  have q8 : ¬ (l.length : Int) = 0 := by omega
  have QB := hide (And.intro (And.intro b3 b4) (And.intro v1 vf))
  generalize hN : l.length * k = N at *
  have HN := hide hN
  rw [← hq]
  have HQ := hide hq
  clear h3' m1 m2 b3 b4 v1 vf hN hq lk p0 lkz lkn
  show Calls Try.prog 11 #[.agg #[.int .i64 fr, .int .i64 st, .slice (some ⟨b, off, none⟩) l.length c], .int .i64 (k : Int)] w (SerPost ⟨fr, q, fnL l k l.length⟩ 0 w)
  go_enter Try.func11, Try.ntmps11
  go_wp2_with fail
  refine (V.out _ (HS.out.below X.1)).mono ?_
  rintro e w1 ⟨rfl, hb⟩
  replace X := X.to hb
  clear hb hr HS V
  have hr := X.r2
  go_wp2_with fail
  go_region
  have lt1 : w.heap.size + 1 < w1.heap.size := X.r1.2.2
  replace X := (X.alloc #[.int .i64 fr, .int .i64 q, .slice none 0 0] 24).drew
  have hoW : w1.heap.size < ((w1.alloc (Obj.cells #[Value.int IntKind.i64 fr, Value.int IntKind.i64 q, Value.slice none 0 0] 24)).drew).heap.size := X.r1.2.2
  generalize hW : (w1.alloc (Obj.cells #[Value.int IntKind.i64 fr, Value.int IntKind.i64 q, Value.slice none 0 0] 24)).drew = W at *
  clear hW hr
  have hr := X.r3
  have C1 : (W.alloc (.cells #[.int .i64 1] 3)).cell? ⟨W.heap.size, 0, none⟩ = some (.int .i64 1) := by
    have := ((Own.start W).alloc #[.int .i64 1] 3).r1.1 0
    exact this
  have RP := hide (repeat_any W.heap.size 0 1 k 1 _ h1 h2 C1)
  clear C1
  go_wp2_with fail
  refine RP.out.mono ?_
  rintro e w2 ⟨hb, g, rfl, hg, hh⟩
  replace X := ((X.alloc #[.int .i64 1] 3).to hb).tail
  have hg2 : W.heap.size < g := by have := hg; simp at this; omega
  have gl : g < w2.heap.size := (Array.getElem?_eq_some_iff.1 hh).1
  have hs2 : W.heap.size < w2.heap.size := by omega
  have G0 : Gat w w2 w2.heap.size w1.heap.size fr q [(w.heap.size + 1, 24, #[.int .i64 0, .int .i64 0, .slice none 0 0]), (w.heap.size, 24, #[.int .i64 fr, .int .i64 st, .slice (some ⟨b, off, none⟩) l.length c])] [(g, .cells (List.replicate k (Value.int .i64 1)).toArray 3 (0, 0))] (.slice none 0 0) (0 * k) (fnL l k 0) := by
    refine ⟨X, ?_, ?_, ⟨Nat.le_refl _, X.1.size, by omega⟩, ?_, ?_⟩
    · rw [Nat.zero_mul]; exact World.ownsRow_nil _ _ _ _
    · intro p hp
      simp only [List.mem_singleton] at hp
      subst hp
      exact ⟨hh, gl, by show g ≠ w1.heap.size; omega⟩
    · intro x hx
      simp only [List.mem_cons, List.not_mem_nil, or_false] at hx
      rcases hx with rfl | rfl
      · show (3 : TypeId) ≠ 24; decide
      · show (3 : TypeId) ≠ 24; decide
    · intro x hx
      simp only [List.mem_cons, List.not_mem_nil, or_false] at hx
      rcases hx with rfl | rfl
      · show w.heap.size + 1 ≠ w1.heap.size; omega
      · show w.heap.size ≠ w1.heap.size; omega
  have GH := hide G0
  clear hr RP hb hg hh hg2 gl hs2 G0 lt1 hoW
  have hr := X.r3
  go_wp2
  clear hr X
  generalize hB2 : w2.heap.size = B2 at *
  generalize hoo : w1.heap.size = o at *
  go_loopw [9, 10, 11, 54] (fun v9 v10 v11 v54 wr => ∃ (i : Nat) (v : Value), i ≤ l.length ∧ v54 = .int .i64 (i : Int) ∧ Hid (Gat w wr B2 o fr q [(w.heap.size + 1, 24, #[.int .i64 0, .int .i64 0, .slice none 0 0]), (w.heap.size, 24, #[.int .i64 fr, .int .i64 st, .slice (some ⟨b, off, none⟩) l.length c])] [(g, .cells (List.replicate k (Value.int .i64 1)).toArray 3 (0, 0))] v (i * k) (fnL l k i))) (fun _ _ _ v54 _ => l.length - (intOf v54).toNat)
  case atStart => exact ⟨0, .slice none 0 0, by omega, rfl, GH⟩
  case round =>
    obtain ⟨i, v, hi, rfl, Y⟩ := hrel
    by_cases hlt : i < l.length
    · have c0 := (Y.out.own.1.cell (p := ⟨b, off + i, none⟩) hbl).trans (HAT.out i hlt)
      have d0 := HV.out i hlt
      have E1 : Hid (fnL l k (i + 1) = fnL l k i ++ fnD k (l.getD i 0)) := hide rfl
      have lk0 := LK.out i (by omega)
      have lk1 := LK.out (i + 1) (by omega)
      have dl := fnD_length h1 h2 d0.1 d0.2
      have hr := Y.out.own.r3
      generalize hd : l.getD i 0 = d at *
      clear hd
      have e1 : (i + 1) * k = i * k + k := by rw [Nat.add_mul, Nat.one_mul]
      rw [e1] at lk1
      generalize hL0 : fnL l k i = L0 at *
      generalize hM : i * k = M at *
      clear hL0 hM
      obtain ⟨j0, hj0, hz0, hz1, hz2⟩ := info_parts int_info17
      by_cases dm : d = -1
      · subst dm
        have E2 : Hid (fnL l k (i + 1) = L0 ++ List.replicate k (-1)) := hide (E1.out.trans (by rw [fnD, if_pos rfl]))
        clear E1 dl d0
        have C1 : (wr.alloc (.cells #[.int .i64 (-1)] 3)).drew.cell? ⟨wr.heap.size, 0, none⟩ = some (.int .i64 (-1)) := ((Own.start wr).alloc #[.int .i64 (-1)] 3).r1.1 0
        have RP := hide (repeat_any wr.heap.size 0 1 k (-1) _ h1 h2 C1)
        clear C1
        go_wp2_with fail
        have f0 : 0 < k := by omega
        have f1 : M + k ≤ maxLen := by unfold maxLen; omega
        have f2 : (M + k) * 8 ≤ 140737488355328 := by omega
        have f4 : ∀ u ∈ List.replicate k (Value.int .i64 (-1)), u.oneCell' = true := by intro u hu; rw [List.eq_of_mem_replicate hu]; rfl
        have f5 : (List.replicate k (Value.int .i64 (-1))).length = k * 1 := by simp
        go_region_law
          (first
            | (go_simp; go_at_call 37; refine RP.out.mono ?_; rintro e w3 ⟨hb3, g3, rfl, hg3, hh3⟩; have Y3 := hide (((Y.out.alloc (.cells #[.int .i64 (-1)] 3)).drew).to hb3); have hr3 := Y3.out.own.r3)
            | (refine step_append_lies _ (by rfl) _ _ _ (by rfl) B2 3 j0 _ 1 8 Try.underlying22 hj0 hz0 hz1 hz2 rfl (by omega) _ M (L0.map (Value.int .i64)) (by rfl) Y3.out.row ⟨g3, 0, none⟩ k k (List.replicate k (.int .i64 (-1))) (by rfl) f5 (World.news_of_block hh3) f4 f0 f1 f2 Y3.out.b2.1 _ (by rfl) ?_; intro gg cp w4 hown4 hgrow hat4 hlt4; have hr4 := (Y3.out.grown hgrow).r3))
        all_goals
          have Y5 := hide (Y3.out.app (L4 := L0 ++ List.replicate k (-1)) (by rw [List.map_append, List.map_replicate]; exact hown4) hgrow)
          clear Y3 hown4 hgrow hr4 hr3 hh3 hb3
          go_wp2
          go_roundw
          case rel => exact ⟨i + 1, _, by omega, by go_num, by rw [E2.out, e1]; exact Y5⟩
          case measure => simp [intOf]; omega
      · have E2 : Hid (fnL l k (i + 1) = L0 ++ shL d (List.replicate k 1)) := hide (E1.out.trans (by rw [fnD, if_neg dm]))
        have dm1 : (d == -1) = false := by simpa using dm
        have se := shE_ones h1 h2 (show 0 ≤ d by omega) d0.2
        have sl := shL_ones_length h1 h2 (show 0 ≤ d by omega) d0.2
        have ON : IntSl wr (some ⟨g, 0, none⟩) (List.replicate k 1) := by
          obtain ⟨hh, hh2⟩ := Y.out.keep _ (List.mem_singleton.2 rfl)
          refine ⟨⟨by rw [List.length_replicate]; omega, fun i hi => by simp⟩, fun _ => ⟨g, 0, rfl, (Array.getElem?_eq_some_iff.1 hh).1, fun i hi => ?_⟩⟩
          have hi' : i < k := by simpa using hi
          simp [World.cell?, hh, hi']
        have SH := share_any d (List.replicate k 1) (some ⟨g, 0, none⟩) k wr ON
        rw [List.length_replicate] at SH
        have SHH := hide SH
        clear E1 dl d0 dm SH ON
        go_wp2_with fail
        refine SHH.out.mono ?_
        rintro e w3 ⟨hb3, A3, c3, rfl, hsl3, hfr3, hcap3⟩
        have Y3 := hide (Y.out.to hb3)
        rw [se, sl]
        generalize shL d (List.replicate k 1) = P at *
        obtain ⟨b3, o3, rfl, hb3l, hat3⟩ := hsl3.2 (by omega)
        have f0 : 0 < k := by omega
        have f1 : M + k ≤ maxLen := by unfold maxLen; omega
        have f2 : (M + k) * 8 ≤ 140737488355328 := by omega
        have f4 : ∀ u ∈ P.map (Value.int .i64), u.oneCell' = true := by intro u hu; obtain ⟨x, _, rfl⟩ := List.mem_map.1 hu; rfl
        have f5 : (P.map (Value.int .i64)).length = k * 1 := by simp [sl]
        have f6 : ∀ (j : Nat) u, (P.map (Value.int .i64))[j]? = some u → w3.cell? ((⟨b3, o3, none⟩ : Addr).add j) = some u := fun j u hu => by
          have hj : j < P.length := by have := (List.getElem?_eq_some_iff.1 hu).1; simpa using this
          rw [show (⟨b3, o3, none⟩ : Addr).add j = ⟨b3, o3 + j, none⟩ by unfold Addr.add; split <;> simp_all, hat3 j hj]
          simpa [hj] using hu
        have FH := hide f6
        have hr3 := Y3.out.own.r3
        clear hb3 hsl3 hfr3 hcap3 hat3 SHH se f6
        go_wp2_with (at_builtin; refine wpList_append_lies _ rfl _ _ 22 rfl B2 3 j0 (.int .i64 0) 1 8 Try.underlying22 hj0 hz0 hz1 hz2 rfl (by decide) _ M (L0.map (Value.int .i64)) rfl Y3.out.row ⟨b3, o3, none⟩ k c3 (P.map (Value.int .i64)) rfl f5 FH.out f4 f0 f1 f2 Y3.out.b2.1 w3.heap.size rfl ?_; intro gg cp w4 hown4 hgrow hat4 hlt4; have hr4 := (Y3.out.grown hgrow).r3)
        have Y5 := hide (Y3.out.app (L4 := L0 ++ P) (by rw [List.map_append]; exact hown4) hgrow)
        clear Y3 hown4 hgrow hr4 hr3
        go_roundw
        case rel => exact ⟨i + 1, _, by omega, by go_num, by rw [E2.out, e1]; exact Y5⟩
        case measure => simp [intOf]; omega
    · obtain rfl : i = l.length := by omega
      have lk0 := LK.out l.length (by omega)
      have bd := fnL_bd h1 h2 HV.out l.length (by omega)
      obtain ⟨g', cp, rfl⟩ := row_form Y.out.row (Nat.mul_pos l1 h1)
      have PO := hide (fun x y z => Y.out.post (rb := w.heap.size + 1) (List.mem_cons_self ..) (by omega) x y z (fun u hu => by have := bd u hu; omega) (by omega) (by have := QB.out.2.2; omega) (by omega))
      have hr := Y.out.own.r3
      clear bd lk0
      go_wp2
      refine bodyPost_ret (v := .tuple #[.agg #[.int .i64 fr, .int .i64 q, .slice (some ⟨g', 0, none⟩) (l.length * k) cp], .int .i64 0]) ?_ rfl ?_
      · simp [results, Try.results11, hr, go_sem]
      · exact PO.out _ _ _
end Go.Proofs.Ytkbocphpnmpaeaa
