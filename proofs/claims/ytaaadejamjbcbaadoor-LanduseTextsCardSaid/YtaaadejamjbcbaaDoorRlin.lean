/- The reference's line of a class: what it returns; nothing that was there is turned. -/
import Derived.Test.YtaaadejamjbcbaaDoorClas
import Derived.Test.YtaaadejamjbcbaaDoorPrt
namespace Go.Proofs.YtaaadejamjbcbaaDoor
open Go Go.RowKit

theorem int_info15l : (Tryd.prog.info? 3).map (fun i => (i.zero, i.size, i.bytes)) = some (some (.int .i64 0), 1, 8) := by kernel_rfl
theorem ClPost.yes2 {l : List UInt8} {a b c d e : List UInt8} {w w' : World} (hb : Below w.heap.size w w') (h : pts 32 l = [a, b, c, d, e]) (h1 : nameB a = true) (h2 : rnB b = true ∧ rnB c = true ∧ rnB d = true ∧ rnB e = true) :
    ClPost l w (.returned (.tuple #[.agg #[strV a, .int .i64 (rnV b), .int .i64 (rnV c), .int .i64 (rnV d), .int .i64 (rnV e)], .bool true])) w' := by
  obtain ⟨n2, n3, n4, n5⟩ := h2
  have k := fun x (h : rnB x = true) => (show rnV x = atV x by unfold rnV; rw [if_pos h, (num_same x).2 h])
  rw [k b n2, k c n3, k d n4, k e n5]
  exact ClPost.yes hb h h1 ⟨by rw [(num_same _).1]; exact n2, by rw [(num_same _).1]; exact n3, by rw [(num_same _).1]; exact n4, by rw [(num_same _).1]; exact n5⟩
theorem rnV_bd (l : List UInt8) : 0 ≤ rnV l ∧ rnV l < 1000000000 := by
  unfold rnV
  split
  · rename_i h
    have := rn_val h
    omega
  · omega
def numsL (u : List (List UInt8)) (k : Nat) : List Int := (List.range k).map fun j => rnV (u.getD j [])
theorem numsL_succ (u : List (List UInt8)) (k : Nat) : numsL u (k + 1) = numsL u k ++ [rnV (u.getD k [])] := by simp [numsL, List.range_succ]
set_option maxRecDepth 100000 in
set_option maxHeartbeats 4000000 in
theorem line_any (s : ByteArray) (w : World) (hl : s.size ≤ 1000000) : Calls Tryd.prog 45 #[.string s] w (ClPost s.data.toList w) := by
  have X := (Own.start w).alloc #[.string ⟨#[]⟩, .int .i64 0, .int .i64 0, .int .i64 0, .int .i64 0] 54
  have SP := hide (fun W => parts_any s 32 W hl)
  have hsl : s.data.toList.length = s.size := by simp
  have PL := hide (fun p (hp : p ∈ pts 32 s.data.toList) => pts_len p hp)
  generalize s.data.toList = l at *
  have CL := hide (fun h => cl_len (l := l) h)
  have CN := hide (fun a b c d e h h1 => cl_name (l := l) (a := a) (b := b) (c := c) (d := d) (e := e) h h1)
  have CM : Hid (∀ a b c d e, pts 32 l = [a, b, c, d, e] → ∀ k, k < 4 → rnB ([b, c, d, e].getD k []) = false → clB l = false) := hide (fun a b c d e h k hk h1 => cl_num (l := l) (a := a) (b := b) (c := c) (d := d) (e := e) h (k := k) hk (by rw [(num_same _).1]; exact h1))
  have CY := hide (fun a b c d e w' hb h h1 h2 => ClPost.yes2 (l := l) (a := a) (b := b) (c := c) (d := d) (e := e) (w := w) (w' := w') hb h h1 h2)
  obtain ⟨i0, hi0, hz0, hz1, hz2⟩ := info_parts int_info15l
  have hr := X.r1
  by_cases h5 : (pts 32 l).length = 5
  case neg =>
    have E := hide (CL.out h5)
    have q1 : ((((pts 32 l).length : Nat) : Int) == 5) = false := by simp; omega
    have q2 : ((((pts 32 l).length : Nat) : Int) != 5) = true := by simp; omega
    clear CL CN CM CY h5
    generalize pts 32 l = ws at *
    go_enter Tryd.func45, Tryd.ntmps45
    go_wp2_with fail
    refine (SP.out _).mono ?_
    rintro e w1 ⟨hb, A, c, rfl, hsl, _⟩
    replace X := X.to hb
    clear hb hr hsl
    have hr := X.r1
    go_wp2
    exact bodyPost_ret (v := .tuple #[.agg #[.string ⟨#[]⟩, .int .i64 0, .int .i64 0, .int .i64 0, .int .i64 0], .bool false]) (by simp [results, Tryd.results45, hr, go_sem]) rfl (ClPost.no (by have HX := X.1; have hz := HX.size; go_grown) E.out)
  obtain ⟨a, b, c, d, e, hws⟩ := five h5
  have HW := hide hws
  rw [hws] at SP PL h5
  have la := PL.out a (by simp)
  have IN := hide (fun W => risname_any ⟨a.toArray⟩ W (by show a.length ≤ maxLen; unfold maxLen; omega))
  have LU : Hid (∀ k, k < 4 → ([b, c, d, e].getD k []).length ≤ 1000000) := hide fun k hk => by
    have : ([b, c, d, e].getD k []) ∈ [a, b, c, d, e] := by
      match k, hk with
      | 0, _ => simp
      | 1, _ => simp
      | 2, _ => simp
      | 3, _ => simp
    have := PL.out _ this
    omega
  rw [show (⟨a.toArray⟩ : ByteArray).data.toList = a by simp] at IN
  clear PL hws CL h5
  rcases Bool.eq_false_or_eq_true (nameB a) with hn | hn
  case inr =>
    have E := hide (CN.out a b c d e HW.out hn)
    rw [hn] at IN
    clear CN CM CY LU
    go_enter Tryd.func45, Tryd.ntmps45
    go_wp2_with fail
    refine (SP.out _).mono ?_
    rintro e' w1 ⟨hb, A, cp, rfl, hsl, hcp⟩
    obtain ⟨bb, off, rfl, hbl, hat⟩ := hsl.2 (by simp)
    have c0 : w1.cell? ⟨bb, off + 0, none⟩ = some (strV a) := hat 0 (by simp)
    rw [Nat.add_zero] at c0
    replace X := X.to hb
    clear hb hr hsl hat
    have hr := X.r1
    go_wp2_with fail
    refine (IN.out _).mono ?_
    rintro e' w2 ⟨rfl, rfl⟩
    go_wp2
    exact bodyPost_ret (v := .tuple #[.agg #[.string ⟨#[]⟩, .int .i64 0, .int .i64 0, .int .i64 0, .int .i64 0], .bool false]) (by simp [results, Tryd.results45, hr, go_sem]) rfl (ClPost.no (by have HX := X.1; have hz := HX.size; go_grown) E.out)
  have HN := hide hn
  rw [hn] at IN
  clear CN hn
  go_enter Tryd.func45, Tryd.ntmps45
  go_wp2_with fail
  refine (SP.out _).mono ?_
  rintro e' w1 ⟨hb, A, cp, rfl, hsl, hcp⟩
  obtain ⟨bb, off, rfl, hbl, hat⟩ := hsl.2 (by simp)
  have c0 : w1.cell? ⟨bb, off + 0, none⟩ = some (strV a) := hat 0 (by simp)
  rw [Nat.add_zero] at c0
  have HU : Hid (∀ k, k < 4 → w1.cell? ⟨bb, off + (k + 1), none⟩ = some (strV ([b, c, d, e].getD k []))) := hide fun k hk => by
    have := hat (k + 1) (by simp; omega)
    rw [this]
    match k, hk with
    | 0, _ => rfl
    | 1, _ => rfl
    | 2, _ => rfl
    | 3, _ => rfl
  replace X := X.to hb
  have lw : w.heap.size < w1.heap.size := Nat.lt_of_lt_of_le (by simp) hb.size
  clear hb hr hsl hat SP
  have hr := X.r1
  go_wp2_with fail
  refine (IN.out _).mono ?_
  rintro e' w2 ⟨rfl, rfl⟩
  go_wp2
  have XH := hide X
  clear X hr
  go_loopw [5, 6] (fun v5 v6 wr => ∃ k : Nat, k ≤ 4 ∧ v6 = .int .i64 ((k : Int) + 1) ∧ Hid (∀ j, j < k → rnB ([b, c, d, e].getD j []) = true) ∧ Hid (Below w1.heap.size w1 wr) ∧
    Hid (Own w wr [(w.heap.size, 54, #[.string ⟨#[]⟩, .int .i64 0, .int .i64 0, .int .i64 0, .int .i64 0])]) ∧ Hid (wr.ownsRow w1.heap.size 3 1 v5 k ((numsL [b, c, d, e] k).map (Value.int .i64)))) (fun _ v6 _ => 5 - (intOf v6).toNat)
  case atStart => exact ⟨0, by omega, rfl, hide (fun j hj => absurd hj (by omega)), hide (Below.refl _ _), XH, hide (World.ownsRow_nil _ _ _ _)⟩
  case round =>
    obtain ⟨k, hk, rfl, HJ, HB, Y, R⟩ := hrel
    by_cases hlt : k < 4
    · have ck := (HB.out.cell (p := ⟨bb, off + (k + 1), none⟩) hbl).trans (HU.out k hlt)
      have NU := hide (fun W => rnumber_any ⟨([b, c, d, e].getD k []).toArray⟩ W (by show ([b, c, d, e].getD k []).length ≤ maxLen; have := LU.out k hlt; unfold maxLen; omega))
      rw [show (⟨([b, c, d, e].getD k []).toArray⟩ : ByteArray).data.toList = [b, c, d, e].getD k [] by simp] at NU
      have EM := hide (fun h => CM.out a b c d e HW.out k hlt h)
      have i1 := IntWalk.i64_in ((k : Int) + 1) (by omega)
      have i2 := IntWalk.i64_in ((k : Int) + 1 + 1) (by omega)
      have i3 : ((k : Int) + 1).toNat = k + 1 := by omega
      have HX := hide (fun h (j : Nat) (hj : j < k + 1) => (by
        by_cases e : j = k
        · subst e; exact h
        · exact HJ.out j (by omega) : rnB ([b, c, d, e].getD j []) = true))
      have SU : Hid (numsL [b, c, d, e] (k + 1) = numsL [b, c, d, e] k ++ [rnV ([b, c, d, e].getD k [])]) := hide (numsL_succ _ _)
      rcases Bool.eq_false_or_eq_true (rnB ([b, c, d, e].getD k [])) with hu | hu
      · have HX2 := hide (HX.out hu)
        rw [hu] at NU
        clear hu HX EM HJ
        generalize [b, c, d, e].getD k [] = x at *
        generalize hR : numsL [b, c, d, e] k = RR at *
        clear hR
        generalize rnV x = y at *
        go_wp2_with fail
        refine (NU.out _).mono ?_
        rintro e' w3 ⟨rfl, rfl⟩
        go_wp2_with (at_builtin; refine wpList_append_own _ rfl _ _ 22 rfl w1.heap.size 3 i0 (.int .i64 0) 1 8 Tryd.underlying22 hi0 hz0 hz1 hz2 rfl (by decide) _ k (RR.map (Value.int .i64)) rfl (R.out.alloc (.cells #[.int .i64 y] 3)) ⟨wr.heap.size, 0, none⟩ 1 1 [.int .i64 y] rfl rfl (World.news_of_block (cs := #[.int .i64 y]) (t := 3) (fr := (0, 0)) (heap_alloc_new wr _)) (by simp [Value.oneCell']) (by unfold maxLen; omega) (by omega) (by have := HB.out.size; simp; omega) ?_; intro v' w4 hown4 hgrow _)
        have YA := Y.out.alloc #[.int .i64 y] 3
        have Y4 : Hid (Own w w4 [(w.heap.size, 54, #[.string ⟨#[]⟩, .int .i64 0, .int .i64 0, .int .i64 0, .int .i64 0])]) := hide ⟨YA.1.grown hgrow YA.1.size (fun j hj => by have := ((R.out.alloc (.cells #[.int .i64 y] 3)).lt j hj).1; omega), fun z hz => (YA.2 z (List.mem_cons_of_mem _ hz)).grown hgrow (fun e' => by
          have := ((R.out.alloc (.cells #[.int .i64 y] 3)).lt z.1 e'.symm).1
          simp at hz; subst hz
          show False
          have h2 : w1.heap.size ≤ w.heap.size := this
          omega)⟩
        have HB4 : Hid (Below w1.heap.size w1 w4) := hide ((HB.out.alloc HB.out.size _).grown hgrow (by have := HB.out.size; simp; omega) (fun j hj => ((R.out.alloc (.cells #[.int .i64 y] 3)).lt j hj).1))
        have R4 : Hid (w4.ownsRow w1.heap.size 3 1 v' (k + 1) ((RR ++ [y]).map (Value.int .i64))) := hide (by rw [List.map_append]; exact hown4)
        clear hown4 hgrow YA
        go_roundw
        case rel => exact ⟨k + 1, by omega, by go_num, HX2, HB4, Y4, by rw [SU.out]; exact R4⟩
        case measure => simp [intOf]; omega
      · have E := hide (EM.out hu)
        rw [hu] at NU
        clear hu HX EM HJ SU
        generalize [b, c, d, e].getD k [] = x at *
        go_wp2_with fail
        refine (NU.out _).mono ?_
        rintro e' w3 ⟨rfl, rfl⟩
        have hr := Y.out.r1
        go_wp2
        exact bodyPost_ret (v := .tuple #[.agg #[.string ⟨#[]⟩, .int .i64 0, .int .i64 0, .int .i64 0, .int .i64 0], .bool false]) (by simp [results, Tryd.results45, hr, go_sem]) rfl (ClPost.no (by have HX := Y.out.1; have hz := HX.size; go_grown) E.out)
    · obtain rfl : k = 4 := by omega
      have ca := (HB.out.cell (p := ⟨bb, off, none⟩) hbl).trans c0
      have e4 : numsL [b, c, d, e] 4 = [rnV b, rnV c, rnV d, rnV e] := rfl
      have R4 := R.out
      rw [e4] at R4
      have b1 := rnV_bd b
      have b2 := rnV_bd c
      have b3 := rnV_bd d
      have b4 := rnV_bd e
      obtain ⟨A', cp', rfl, hsl⟩ := IntSl.of_row R4 (by simp) (fun i h => by
        have hi : i < 4 := h
        match i, hi with
        | 0, _ => show _ ≤ rnV b ∧ rnV b ≤ _; omega
        | 1, _ => show _ ≤ rnV c ∧ rnV c ≤ _; omega
        | 2, _ => show _ ≤ rnV d ∧ rnV d ≤ _; omega
        | 3, _ => show _ ≤ rnV e ∧ rnV e ≤ _; omega)
      obtain ⟨nb, no, rfl, hnb, hat⟩ := hsl.2 (by simp)
      have k0 : wr.cell? ⟨nb, no + 0, none⟩ = some (.int .i64 (rnV b)) := hat 0 (by simp)
      have k1 : wr.cell? ⟨nb, no + 1, none⟩ = some (.int .i64 (rnV c)) := hat 1 (by simp)
      have k2 : wr.cell? ⟨nb, no + 2, none⟩ = some (.int .i64 (rnV d)) := hat 2 (by simp)
      have k3 : wr.cell? ⟨nb, no + 3, none⟩ = some (.int .i64 (rnV e)) := hat 3 (by simp)
      rw [Nat.add_zero] at k0
      have NN := HJ.out
      have FY := hide (fun w' hb => CY.out a b c d e w' hb HW.out HN.out ⟨NN 0 (by omega), NN 1 (by omega), NN 2 (by omega), NN 3 (by omega)⟩)
      have hr := Y.out.r1
      have BB := Y.out.1
      have hl4 : [rnV b, rnV c, rnV d, rnV e].length = 4 := rfl
      rw [hl4]
      clear NN HJ HU LU CM CY IN Y R R4 hat hsl e4 b1 b2 b3 b4 hl4
      generalize rnV b = vb at *
      generalize rnV c = vc at *
      generalize rnV d = vd at *
      generalize rnV e = ve at *
      go_wp2
      go_region
      go_wp2
      exact bodyPost_ret (v := .tuple #[.agg #[strV a, .int .i64 vb, .int .i64 vc, .int .i64 vd, .int .i64 ve], .bool true]) (by simp [results, Tryd.results45, hr, go_sem]) rfl (FY.out _ (by have hz := BB.size; go_grown))
end Go.Proofs.YtaaadejamjbcbaaDoor
